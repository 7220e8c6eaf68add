/- Functions of the program as plain functions, and that the translation computes them; the conditions stand in each theorem. Printed by an own program. -/
import Derived.Test.YtoninfimcobeiaaT
import Derived.Test.YtoninfimcobeiaaProg
namespace Go.Proofs.Ytoninfimcobeiaa.Sy
open Go
set_option linter.unusedVariables false
theorem ON3 : one Try.prog 3 = true := by kernel_rfl
theorem SZ28 : (Try.prog.info? 28).map (·.size) = some 1 := by kernel_rfl
theorem ON28 : one Try.prog 28 = true := by kernel_rfl
theorem SZ3 : (Try.prog.info? 3).map (·.size) = some 1 := by kernel_rfl
theorem IF3 : (Try.prog.info? 3).map (fun i => (i.zero, i.size, i.bytes)) = some (some (.int .i64 0), 1, 8) := by kernel_rfl
theorem IF28 : (Try.prog.info? 28).map (fun i => (i.zero, i.size, i.bytes)) = some (some (.slice none 0 0), 1, 24) := by kernel_rfl
theorem US3 : (Try.prog.underlying 3).isSome = true := by kernel_rfl
theorem FM : Try.prog.follows .mixedOrders = true := by kernel_rfl

def know_wrong_c1 (l_0 : List Int) (cp_0 : Int) : Option (Bool) :=
  some (((l_0.length : Int) != cp_0))

set_option maxRecDepth 100000 in
theorem know_wrong_c1_ok (w0 : World) (m : Snap) (l : List HI) (ul_0 : Value) (l_0 : List Int) (hl_0 : RS rI m ul_0 l_0) (fp0 fb0 : Nat) (cp_0 : Int) (hfp0 : l[fp0]? = some (hcells fb0 [.int .i64 cp_0] 3)) (r : Bool) (hr : know_wrong_c1 l_0 cp_0 = some r) (w : World) (hc : cX w0 ⟨m, l⟩ w) :
    Calls Try.prog 64 [ul_0, bp fb0 0].toArray w fun e w' => e = .returned (.bool r) ∧ cX w0 ⟨m, l⟩ w' := by
  unfold know_wrong_c1 at hr
  refine calls_of_Tr (N := 8) Try.func64 rfl hc rfl (Nat.le_of_ble_eq_true rfl) ?_
  refine Tr.seq ?_
  refine Tr.region_f (fun _ => false) ?_
  refine W.q rfl rfl rfl rfl (by decide) (Yd.as rfl .c) ?_
  refine W.end ?_
  refine NX.sub (env' := [(0, _), (1, _)]) ⟨rfl, rfl, trivial⟩ ?_
  refine NX.then ?_
  refine Tr.seq ?_
  refine Tr.region_f (fun _ => false) ?_
  refine W.q rfl rfl rfl rfl (by decide) (Yd.mv rfl (.t rfl)) ?_
  refine W.q rfl rfl rfl rfl (by decide) (Yd.lenR hl_0 rfl Try.underlying28 (.t rfl)) ?_
  refine W.q rfl rfl rfl rfl (by decide) (Yd.ldB (pos := fp0) hfp0 rfl rfl ON3 (.t rfl)) ?_
  refine W.q rfl rfl rfl rfl (by decide) (Yd.neq rfl (.t rfl) (.t rfl)) ?_
  refine W.q rfl rfl rfl rfl (by decide) (Yd.as rfl (.t rfl)) ?_
  refine W.end ?_
  refine NX.sub (env' := [(3, _)]) ⟨rfl, trivial⟩ ?_
  refine NX.then ?_
  refine Tr.ret' ?_
  refine res1 rfl rfl ?_
  intro w hc
  cases hr
  exact ⟨rfl, hc⟩

def slices_IndexFunc_SSintSint_k3 : Option (Int) :=
  some ((-1 : Int))

def slices_IndexFunc_SSintSint_b7 (s_0 : List (List Int)) (f_1 : List Int → Option Bool) (t_6 : Int) (nx8 : Unit → Option (Int)) : Option (Int) :=
  (geti s_0 t_6).bind fun y10 =>
  (f_1 y10).bind fun r15 =>
  (bif r15 then
  some t_6
  else
  nx8 ())

def slices_IndexFunc_SSintSint (s_0 : List (List Int)) (f_1 : List Int → Option Bool) : Option (Int) :=
  forK (σ := Unit) (fun i s nx_ => slices_IndexFunc_SSintSint_b7 s_0 f_1 i nx_) (fun _ => slices_IndexFunc_SSintSint_k3) ((s_0.length : Int) - (0 : Int)).toNat (0 : Int) ()

set_option maxRecDepth 100000 in
theorem slices_IndexFunc_SSintSint_ok (w0 : World) (m : Snap) (l : List HI) (us_0 : Value) (s_0 : List (List Int)) (hs_0 : RS (Rp.slice rI) m us_0 s_0) (uf_1 : Value) (f_1 : List Int → Option Bool) (hf_1 : Fq Try.prog w0 ⟨m, l⟩ uf_1 (α := List Int) (β := Bool) (fun m v a => RS rI m v a) (fun b => .bool b) f_1) (r : Int) (hr : slices_IndexFunc_SSintSint s_0 f_1 = some r) (w : World) (hc : cX w0 ⟨m, l⟩ w) :
    Calls Try.prog 70 [us_0, uf_1].toArray w fun e w' => e = .returned (.int .i64 r) ∧ cX w0 ⟨m, l⟩ w' := by
  unfold slices_IndexFunc_SSintSint at hr
  refine calls_of_Tr (N := 19) Try.func70 rfl hc rfl (Nat.le_of_ble_eq_true rfl) ?_
  refine Tr.seq ?_
  refine Tr.region_f (fun _ => false) ?_
  refine W.q rfl rfl rfl rfl (by decide) (Yd.as rfl .c) ?_
  refine W.end ?_
  refine NX.sub (env' := [(0, _), (1, _)]) ⟨rfl, rfl, trivial⟩ ?_
  refine NX.then ?_
  refine Tr.seq ?_
  refine Tr.seq ?_
  refine Tr.region_f (fun _ => false) ?_
  refine W.q rfl rfl rfl rfl (by decide) (Yd.mv rfl (.t rfl)) ?_
  refine W.q rfl rfl rfl rfl (by decide) (Yd.lenR hs_0 rfl Try.underlying22 (.t rfl)) ?_
  refine W.q rfl rfl rfl rfl (by decide) (Yd.mv rfl .c) ?_
  refine W.end ?_
  refine NX.sub (env' := [(0, _), (1, _), (7, _), (8, _)]) ⟨rfl, rfl, rfl, rfl, trivial⟩ ?_
  refine NX.then ?_
  refine Tr.join (S := fun env x => env = [] ∧ x = ⟨m, l⟩ ∧ slices_IndexFunc_SSintSint_k3 = some r) ?_ (fun hk4 => ?_)
  · rintro _ _ ⟨rfl, rfl, hr⟩
    unfold slices_IndexFunc_SSintSint_k3 at hr
    try dsimp only at hr
    refine NX.then ?_
    refine Tr.seq ?_
    refine Tr.region_f (fun _ => false) ?_
    refine W.q rfl rfl rfl rfl (by decide) (Yd.as rfl .c) ?_
    refine W.end ?_
    refine NX.sub (env' := [(4, _)]) ⟨rfl, trivial⟩ ?_
    refine NX.then ?_
    refine Tr.ret' ?_
    refine res1 rfl rfl ?_
    intro w hc
    cases hr
    exact ⟨rfl, hc⟩
  have hlen5 := (hs_0).2.1
  refine Tr.block ?_
  refine Tr.sub (env' := [(0, _), (1, _), (7, _), (8, _)]) ⟨rfl, rfl, rfl, rfl, trivial⟩ ?_
  refine Tr.loop (S := fun n (z : Int × Unit) env x => match z with | (t_6, _) => env = [(0, us_0), (1, uf_1), (7, .int .i64 ((s_0.length : Int))), (8, .int .i64 t_6)] ∧ x = ⟨m, l⟩ ∧ n = ((s_0.length : Int) - t_6).toNat ∧ 0 ≤ t_6 ∧ forK (σ := Unit) (fun i s nx_ => slices_IndexFunc_SSintSint_b7 s_0 f_1 i nx_) (fun _ => slices_IndexFunc_SSintSint_k3) n t_6 () = some r) _ ((0 : Int), ()) ⟨rfl, rfl, rfl, (by omega), hr⟩ ?_
  rintro n9 ⟨t_6, _⟩ env x ⟨rfl, rfl, hnt_6, h0t_6, hr⟩
  cases n9 with
  | zero =>
    simp only [forK] at hr
    refine Tr.seq ?_
    refine Tr.region_f (fun _ => false) ?_
    refine W.q rfl rfl rfl rfl (by decide) (Yd.lss rfl (.t rfl) (.t rfl)) ?_
    refine W.end ?_
    refine NX.sub (env' := [(0, _), (1, _), (7, _), (8, _), (9, _)]) ⟨rfl, rfl, rfl, rfl, rfl, trivial⟩ ?_
    refine NX.then ?_
    refine Tr.seq ?_
    refine Tr.cond (.t rfl) (fun hb => ?_) (fun hb => ?_)
    · exact absurd (hb.symm.trans (fr_end hnt_6)) (by decide)
    ·
      refine Tr.exit' (EX.then (EX.then (EX.block ?_)))
      refine NX.sub (env' := []) trivial ?_
      exact hk4 _ _ ⟨rfl, rfl, hr⟩
  | succ n9 =>
    obtain ⟨nx8, hnx8, hr⟩ := forK_succ hr
    try dsimp only at hr
    unfold slices_IndexFunc_SSintSint_b7 at hr
    try dsimp only at hr
    have hltt_6 := fr_bnd hnt_6
    refine Tr.seq ?_
    refine Tr.region_f (fun _ => false) ?_
    refine W.q rfl rfl rfl rfl (by decide) (Yd.lss rfl (.t rfl) (.t rfl)) ?_
    refine W.end ?_
    refine NX.sub (env' := [(0, _), (1, _), (7, _), (8, _), (9, _)]) ⟨rfl, rfl, rfl, rfl, rfl, trivial⟩ ?_
    refine NX.then ?_
    refine Tr.seq ?_
    refine Tr.cond (.t rfl) (fun hb => ?_) (fun hb => ?_)
    rotate_left
    · exact absurd (hb.symm.trans (fr_go hnt_6)) (by decide)
    ·
      refine Tr.skip' ?_
      refine NX.then ?_
      refine Tr.seq ?_
      refine Tr.block ?_
      refine Tr.seq ?_
      refine Tr.region_f (fun _ => false) ?_
      refine W.q rfl rfl rfl rfl (by decide) (Yd.mv rfl (.t rfl)) ?_
      refine W.q rfl rfl rfl rfl (by decide) (Yd.as rfl (.t rfl)) ?_
      refine W.end ?_
      refine NX.sub (env' := [(0, _), (1, _), (7, _), (8, _), (5, _)]) ⟨rfl, rfl, rfl, rfl, rfl, trivial⟩ ?_
      refine NX.then ?_
      refine Tr.seq ?_
      obtain ⟨y10, hy11, hr⟩ := bind_some hr
      obtain ⟨u12, hu13, hat14⟩ := hs_0.row hy11
      obtain ⟨r15, hr16, hr⟩ := bind_some hr
      refine Tr.region_f (fun _ => false) ?_
      refine W.q rfl rfl rfl rfl (by decide) (Yd.mv rfl (.t rfl)) ?_
      refine W.q rfl rfl rfl rfl (by decide) (Yd.mv rfl (.t rfl)) ?_
      refine W.q rfl rfl rfl rfl (by decide) (Yd.mv rfl (.t rfl)) ?_
      refine W.q rfl rfl rfl rfl (by decide) (Yd.idxR hs_0 hy11 rfl Try.underlying22 SZ28 (.t rfl) (.t rfl)) ?_
      refine W.q rfl rfl rfl rfl (by decide) (Yd.ldRow hat14 (.refl _) rfl ON28 (.t rfl)) ?_
      refine W.q rfl rfl rfl rfl (by decide) (Yd.callF hf_1 ⟨(.refl _), [], rfl⟩ rfl (.t rfl) (.t rfl) (fun _ hm => hu13.mono hm) hr16) ?_
      refine W.end ?_
      refine NX.sub (env' := [(0, _), (1, _), (7, _), (8, _), (5, _), (16, _)]) ⟨rfl, rfl, rfl, rfl, rfl, rfl, trivial⟩ ?_
      refine NX.then ?_
      refine Tr.cond (.t rfl) (fun hb => ?_) (fun hb => ?_)
      · have hr := cond_t hb hr
        refine Tr.seq ?_
        refine Tr.region_f (fun _ => false) ?_
        refine W.q rfl rfl rfl rfl (by decide) (Yd.mv rfl (.t rfl)) ?_
        refine W.q rfl rfl rfl rfl (by decide) (Yd.as rfl (.t rfl)) ?_
        refine W.end ?_
        refine NX.sub (env' := [(4, _)]) ⟨rfl, trivial⟩ ?_
        refine NX.then ?_
        refine Tr.ret' (RT.block (RT.then (RT.then (RT.block (RT.then ?_)))))
        refine res1 rfl rfl ?_
        intro w hc
        cases hr
        exact ⟨rfl, hc⟩
      · have hr := cond_f hb hr
        refine Tr.skip' ?_
        refine NX.block ?_
        refine NX.then ?_
        refine Tr.region_f (fun _ => false) ?_
        refine W.q rfl rfl rfl rfl (by decide) (Yd.add rfl (.t rfl) .c) ?_
        refine W.q rfl rfl rfl rfl (by decide) (Yd.mv rfl (.t rfl)) ?_
        refine W.end ?_
        refine NX.sub (env' := [(0, _), (1, _), (7, _), (8, _)]) ⟨rfl, rfl, rfl, rfl, trivial⟩ ?_
        refine NX.sub (env' := [(0, _), (1, _), (7, _), (8, _)]) ⟨rfl, rfl, rfl, rfl, trivial⟩ ?_
        have hw := w64_id (n := t_6 + 1) (by omega) (by omega)
        exact NX.again n9 (t_6 + 1, ()) (Nat.lt_succ_self _) ⟨(by rw [hw] <;> rfl), rfl, (fr_dec hnt_6), (by omega), ((hnx8 _).symm.trans hr)⟩

def slices_ContainsFunc_SSintSint (s_0 : List (List Int)) (f_1 : List Int → Option Bool) : Option (Bool) :=
  (slices_IndexFunc_SSintSint s_0 f_1).bind fun r1 =>
  some ((decide (r1 ≥ (0 : Int))))

set_option maxRecDepth 100000 in
theorem slices_ContainsFunc_SSintSint_ok (w0 : World) (m : Snap) (l : List HI) (us_0 : Value) (s_0 : List (List Int)) (hs_0 : RS (Rp.slice rI) m us_0 s_0) (uf_1 : Value) (f_1 : List Int → Option Bool) (hf_1 : Fq Try.prog w0 ⟨m, l⟩ uf_1 (α := List Int) (β := Bool) (fun m v a => RS rI m v a) (fun b => .bool b) f_1) (r : Bool) (hr : slices_ContainsFunc_SSintSint s_0 f_1 = some r) (w : World) (hc : cX w0 ⟨m, l⟩ w) :
    Calls Try.prog 63 [us_0, uf_1].toArray w fun e w' => e = .returned (.bool r) ∧ cX w0 ⟨m, l⟩ w' := by
  unfold slices_ContainsFunc_SSintSint at hr
  refine calls_of_Tr (N := 9) Try.func63 rfl hc rfl (Nat.le_of_ble_eq_true rfl) ?_
  refine Tr.seq ?_
  refine Tr.region_f (fun _ => false) ?_
  refine W.q rfl rfl rfl rfl (by decide) (Yd.as rfl .c) ?_
  refine W.end ?_
  refine NX.sub (env' := [(0, _), (1, _)]) ⟨rfl, rfl, trivial⟩ ?_
  refine NX.then ?_
  refine Tr.seq ?_
  obtain ⟨r1, hr2, hr⟩ := bind_some hr
  refine Tr.region_f (fun _ => false) ?_
  refine W.q rfl rfl rfl rfl (by decide) (Yd.mv rfl (.t rfl)) ?_
  refine W.q rfl rfl rfl rfl (by decide) (Yd.mv rfl (.t rfl)) ?_
  refine W.q rfl rfl rfl rfl (by decide) (Yd.call (v := .int .i64 r1) rfl Try.func70 rfl rfl (.cons (.t rfl) (.cons (.t rfl) .nil)) (fun x' hx w hw => slices_IndexFunc_SSintSint_ok w0 x'.m x'.l _ _ (hs_0.mono hx.1) _ f_1 (hf_1.mono (leX_trans _ _ _ ⟨(.refl _), [], rfl⟩ hx)) _ hr2 w hw)) ?_
  refine W.q rfl rfl rfl rfl (by decide) (Yd.geq rfl (.t rfl) .c) ?_
  refine W.q rfl rfl rfl rfl (by decide) (Yd.as rfl (.t rfl)) ?_
  refine W.end ?_
  refine NX.sub (env' := [(4, _)]) ⟨rfl, trivial⟩ ?_
  refine NX.then ?_
  refine Tr.ret' ?_
  refine res1 rfl rfl ?_
  intro w hc
  cases hr
  exact ⟨rfl, hc⟩

def know_wrong (n_0 : Int) (cells_1 : List (List Int)) (event_2 : (BitVec 32)) : Option (Int) :=
  (bif ((((decide (n_0 < (1 : Int))) || (decide (n_0 > (6 : Int)))) || (decide ((cells_1.length : Int) < (1 : Int)))) || (decide ((cells_1.length : Int) > (5 : Int)))) then
  some ((1 : Int))
  else
  (slices_ContainsFunc_SSintSint cells_1 (fun a => know_wrong_c1 a n_0)).bind fun r3 =>
  (bif r3 then
  some ((3 : Int))
  else
  bif decide (0 ≤ n_0) then
  (bif ((event_2 >>> n_0.toNat) != 0#32) then
  some ((4 : Int))
  else
  some ((0 : Int))) else none))

set_option maxRecDepth 100000 in
theorem know_wrong_ok (w0 : World) (m : Snap) (l : List HI) (n_0 : Int) (ucells_1 : Value) (cells_1 : List (List Int)) (hcells_1 : RS (Rp.slice rI) m ucells_1 cells_1) (event_2 : (BitVec 32)) (r : Int) (hr : know_wrong n_0 cells_1 event_2 = some r) (w : World) (hc : cX w0 ⟨m, l⟩ w) :
    Calls Try.prog 44 [.int .i64 n_0, ucells_1, .int .u32 (event_2.toNat : Int)].toArray w fun e w' => e = .returned (.int .i64 r) ∧ cX w0 ⟨m, l⟩ w' := by
  unfold know_wrong at hr
  refine calls_of_Tr (N := 33) Try.func44 rfl hc rfl (Nat.le_of_ble_eq_true rfl) ?_
  refine Tr.seq ?_
  refine Tr.region_f (fun i => Nat.beq i 0) ?_
  refine W.e rfl rfl rfl rfl (by decide) (Ef.bx rfl (.t rfl) rfl) ?_
  rintro _ _ ⟨b1, rfl, rfl⟩
  refine ⟨.inl rfl, ?_⟩
  refine W.cast (m' := m) (l' := hcells b1 [_] 3 :: l) rfl rfl ?_
  refine W.q rfl rfl rfl rfl (by decide) (Yd.as rfl .c) ?_
  refine W.end ?_
  refine NX.sub (env' := [(1, _), (2, _), (3, _)]) ⟨rfl, rfl, rfl, trivial⟩ ?_
  refine NX.then ?_
  refine Tr.seq ?_
  refine Tr.block ?_
  refine Tr.seq ?_
  refine Tr.region_f (fun _ => false) ?_
  refine W.q rfl rfl rfl rfl (by decide) (Yd.ldB (pos := 0) rfl rfl rfl ON3 (.t rfl)) ?_
  refine W.q rfl rfl rfl rfl (by decide) (Yd.lss rfl (.t rfl) .c) ?_
  refine W.q rfl rfl rfl rfl (by decide) (Yd.mv rfl (.t rfl)) ?_
  refine W.g rfl rfl rfl rfl rfl (.t rfl _) rfl (by decide) (fun hG => Yd.ldB (pos := 0) rfl rfl rfl ON3 (.t rfl)) ?_
  refine W.g rfl rfl rfl rfl rfl (.t rfl _) rfl (by decide) (fun hG => Yd.gtr rfl (.g rfl hG) .c) ?_
  refine W.q rfl rfl rfl rfl (by decide) (Yd.or rfl (.t rfl) .c rfl rfl) ?_
  refine W.q rfl rfl rfl rfl (by decide) (Yd.mv rfl (.t rfl)) ?_
  refine W.g rfl rfl rfl rfl rfl (.t rfl _) rfl (by decide) (fun hG => Yd.mv rfl (.t rfl)) ?_
  refine W.g rfl rfl rfl rfl rfl (.t rfl _) rfl (by decide) (fun hG => Yd.lenR hcells_1 rfl Try.underlying22 (.g rfl hG)) ?_
  refine W.g rfl rfl rfl rfl rfl (.t rfl _) rfl (by decide) (fun hG => Yd.lss rfl (.g rfl hG) .c) ?_
  refine W.q rfl rfl rfl rfl (by decide) (Yd.or rfl (.t rfl) .c rfl rfl) ?_
  refine W.q rfl rfl rfl rfl (by decide) (Yd.mv rfl (.t rfl)) ?_
  refine W.g rfl rfl rfl rfl rfl (.t rfl _) rfl (by decide) (fun hG => Yd.mv rfl (.t rfl)) ?_
  refine W.g rfl rfl rfl rfl rfl (.t rfl _) rfl (by decide) (fun hG => Yd.lenR hcells_1 rfl Try.underlying22 (.g rfl hG)) ?_
  refine W.g rfl rfl rfl rfl rfl (.t rfl _) rfl (by decide) (fun hG => Yd.gtr rfl (.g rfl hG) .c) ?_
  refine W.q rfl rfl rfl rfl (by decide) (Yd.or rfl (.t rfl) .c rfl rfl) ?_
  refine W.q rfl rfl rfl rfl (by decide) (Yd.as rfl (.t rfl)) ?_
  refine W.end ?_
  refine NX.sub (env' := [(1, _), (2, _), (3, _), (7, _)]) ⟨rfl, rfl, rfl, rfl, trivial⟩ ?_
  refine NX.then ?_
  refine Tr.cond (.t rfl) (fun hb => ?_) (fun hb => ?_)
  · have hr := cond_t hb hr
    refine Tr.seq ?_
    refine Tr.region_f (fun _ => false) ?_
    refine W.q rfl rfl rfl rfl (by decide) (Yd.as rfl .c) ?_
    refine W.end ?_
    refine NX.sub (env' := [(6, _)]) ⟨rfl, trivial⟩ ?_
    refine NX.drop (l' := l) (.cons _ (.refl _)) ?_
    refine NX.then ?_
    refine Tr.ret' (RT.block (RT.then ?_))
    refine res1 rfl rfl ?_
    intro w hc
    cases hr
    exact ⟨rfl, hc⟩
  · have hr := cond_f hb hr
    refine Tr.seq ?_
    obtain ⟨r3, hr4, hr⟩ := bind_some hr
    refine Tr.region_f (fun _ => false) ?_
    refine W.q rfl rfl rfl rfl (by decide) (Yd.mv rfl (.t rfl)) ?_
    refine W.q rfl rfl rfl rfl (by decide) (Yd.mkf rfl (.cons (.t rfl) .nil)) ?_
    refine W.q rfl rfl rfl rfl (by decide) (Yd.call (v := .bool r3) rfl Try.func63 rfl rfl (.cons (.t rfl) (.cons (.t rfl) .nil)) (fun x' hx w hw => slices_ContainsFunc_SSintSint_ok w0 x'.m x'.l _ _ (hcells_1.mono hx.1) _ (fun a => know_wrong_c1 a n_0) ⟨64, _, _, rfl, Try.func64, rfl, rfl, fun y hy w2 hw2 v a r2 hv hr2 => by obtain ⟨p5, hp5⟩ := (leX_trans _ _ _ hx hy).at (p := 0) rfl; exact know_wrong_c1_ok w0 y.m y.l v a hv p5 _ n_0 hp5 r2 hr2 w2 hw2⟩ _ hr4 w hw)) ?_
    refine W.q rfl rfl rfl rfl (by decide) (Yd.as rfl (.t rfl)) ?_
    refine W.end ?_
    refine NX.sub (env' := [(2, _), (3, _), (24, _)]) ⟨rfl, rfl, rfl, trivial⟩ ?_
    refine NX.then ?_
    refine Tr.cond (.t rfl) (fun hb => ?_) (fun hb => ?_)
    · have hr := cond_t hb hr
      refine Tr.seq ?_
      refine Tr.region_f (fun _ => false) ?_
      refine W.q rfl rfl rfl rfl (by decide) (Yd.as rfl .c) ?_
      refine W.end ?_
      refine NX.sub (env' := [(6, _)]) ⟨rfl, trivial⟩ ?_
      refine NX.drop (l' := l) (.cons _ (.refl _)) ?_
      refine NX.then ?_
      refine Tr.ret' (RT.block (RT.then ?_))
      refine res1 rfl rfl ?_
      intro w hc
      cases hr
      exact ⟨rfl, hc⟩
    · have hr := cond_f hb hr
      refine Tr.seq ?_
      obtain ⟨hq5, hr⟩ := guard_some hr; replace hq5 := of_decide_eq_true hq5
      refine Tr.region_f (fun _ => false) ?_
      refine W.q rfl rfl rfl rfl (by decide) (Yd.mv rfl (.t rfl)) ?_
      refine W.q rfl rfl rfl rfl (by decide) (Yd.ldB (pos := 0) rfl rfl rfl ON3 (.t rfl)) ?_
      refine W.q rfl rfl rfl rfl (by decide) (Yd.shrU (a := event_2) rfl (.t rfl) (.t rfl) hq5) ?_
      refine W.q rfl rfl rfl rfl (by decide) (Yd.neqU (a := (event_2 >>> n_0.toNat)) (b := 0#32) rfl (.t rfl) .c) ?_
      refine W.q rfl rfl rfl rfl (by decide) (Yd.as rfl (.t rfl)) ?_
      refine W.end ?_
      refine NX.sub (env' := [(28, _)]) ⟨rfl, trivial⟩ ?_
      refine NX.drop (l' := l) (.cons _ (.refl _)) ?_
      refine NX.then ?_
      refine Tr.cond (.t rfl) (fun hb => ?_) (fun hb => ?_)
      · have hr := cond_t hb hr
        refine Tr.seq ?_
        refine Tr.region_f (fun _ => false) ?_
        refine W.q rfl rfl rfl rfl (by decide) (Yd.as rfl .c) ?_
        refine W.end ?_
        refine NX.sub (env' := [(6, _)]) ⟨rfl, trivial⟩ ?_
        refine NX.then ?_
        refine Tr.ret' (RT.block (RT.then ?_))
        refine res1 rfl rfl ?_
        intro w hc
        cases hr
        exact ⟨rfl, hc⟩
      · have hr := cond_f hb hr
        refine Tr.skip' ?_
        refine NX.block ?_
        refine NX.then ?_
        refine Tr.seq ?_
        refine Tr.region_f (fun _ => false) ?_
        refine W.q rfl rfl rfl rfl (by decide) (Yd.as rfl .c) ?_
        refine W.end ?_
        refine NX.sub (env' := [(6, _)]) ⟨rfl, trivial⟩ ?_
        refine NX.then ?_
        refine Tr.ret' ?_
        refine res1 rfl rfl ?_
        intro w hc
        cases hr
        exact ⟨rfl, hc⟩

def know_Hear_k21 (l16 : List (List Int)) : Option ((List (List Int)) × Int) :=
  some ((l16, (0 : Int)))

def know_Hear_k44 (l11 : List (List Int)) (nx28 : ((List (List Int)) → Option ((List (List Int)) × Int))) (l42 : List Int) : Option ((List (List Int)) × Int) :=
  bif decide (l11.length + 1 ≤ 5864062014805) then
  nx28 (l11 ++ [l42]) else none

def know_Hear_k60 (l40 : List Int) (nx55 : ((List Int) → Option ((List (List Int)) × Int))) (v_59 : Int) : Option ((List (List Int)) × Int) :=
  bif decide (l40.length + (([v_59] : List Int)).length ≤ 17592186044416) then
  nx55 (l40 ++ ([v_59] : List Int)) else none

def know_Hear_b66 (event_2 : (BitVec 32)) (y30 : (List Int)) (t_53 : Int) (l40 : List Int) (nx55 : ((List Int) → Option ((List (List Int)) × Int))) (v_58 : Int) (nx67 : Int → Option ((List (List Int)) × Int)) : Option ((List (List Int)) × Int) :=
  (geti y30 t_53).bind fun y69 =>
  (geti y30 v_58).bind fun y71 =>
  bif (!((y69 != y71) == false) || decide (0 ≤ v_58)) then
  (bif ((y69 != y71) || (((event_2 >>> t_53.toNat) &&& 1#32) != ((event_2 >>> v_58.toNat) &&& 1#32))) then
  nx67 (w64 (v_58 + (1 : Int)))
  else
  know_Hear_k60 l40 nx55 v_58) else none

def know_Hear_b54 (event_2 : (BitVec 32)) (fuel : Nat) (y30 : (List Int)) (t_53 : Int) (l40 : List Int) (nx55 : (List Int) → Option ((List (List Int)) × Int)) : Option ((List (List Int)) × Int) :=
  whileK (σ := Int) (fun s nx_ => know_Hear_b66 event_2 y30 t_53 l40 nx55 s nx_) fuel ((0 : Int))

def know_Hear_b27 (n_0 : Int) (cells_1 : List (List Int)) (event_2 : (BitVec 32)) (fuel : Nat) (t_26 : Int) (l11 : List (List Int)) (nx28 : (List (List Int)) → Option ((List (List Int)) × Int)) : Option ((List (List Int)) × Int) :=
  (geti cells_1 t_26).bind fun y30 =>
  bif decide (n_0 ≤ 9223372036854775807) then
  forK (σ := (List Int)) (fun i s nx_ => know_Hear_b54 event_2 fuel y30 i s nx_) (fun s => know_Hear_k44 l11 nx28 s) (n_0 - (0 : Int)).toNat (0 : Int) (([] : List Int)) else none

def know_Hear (fuel : Nat) (n_0 : Int) (cells_1 : List (List Int)) (event_2 : (BitVec 32)) : Option ((List (List Int)) × Int) :=
  (know_wrong n_0 cells_1 event_2).bind fun r1 =>
  (bif (r1 != (0 : Int)) then
  some (([], r1))
  else
  forK (σ := (List (List Int))) (fun i s nx_ => know_Hear_b27 n_0 cells_1 event_2 fuel i s nx_) (fun s => know_Hear_k21 s) ((cells_1.length : Int) - (0 : Int)).toNat (0 : Int) (([] : List (List Int))))

set_option maxRecDepth 100000 in
theorem know_Hear_ok (w0 : World) (m : Snap) (l : List HI) (fuel : Nat) (n_0 : Int) (ucells_1 : Value) (cells_1 : List (List Int)) (hcells_1 : RS (Rp.slice rI) m ucells_1 cells_1) (event_2 : (BitVec 32)) (r : (List (List Int)) × Int) (hr : know_Hear fuel n_0 cells_1 event_2 = some r) (w : World) (hc : cX w0 ⟨m, l⟩ w) :
    Calls Try.prog 15 [.int .i64 n_0, ucells_1, .int .u32 (event_2.toNat : Int)].toArray w fun e w' => ∃ z0 : Value, ∃ m1 : Snap, e = .returned (.tuple #[z0, .int .i64 r.2]) ∧ Sle m m1 ∧ RS (Rp.slice rI) m1 z0 r.1 ∧ cX w0 ⟨m1, l⟩ w' := by
  unfold know_Hear at hr
  refine calls_of_Tr (N := 65) Try.func15 rfl hc rfl (Nat.le_of_ble_eq_true rfl) ?_
  refine Tr.seq ?_
  refine Tr.region_f (fun _ => false) ?_
  refine W.q rfl rfl rfl rfl (by decide) (Yd.as rfl .c) ?_
  refine W.q rfl rfl rfl rfl (by decide) (Yd.as rfl .c) ?_
  refine W.end ?_
  refine NX.sub (env' := [(0, _), (1, _), (2, _)]) ⟨rfl, rfl, rfl, trivial⟩ ?_
  refine NX.then ?_
  refine Tr.seq ?_
  refine Tr.seq ?_
  obtain ⟨r1, hr2, hr⟩ := bind_some hr
  refine Tr.region_f (fun _ => false) ?_
  refine W.q rfl rfl rfl rfl (by decide) (Yd.mv rfl (.t rfl)) ?_
  refine W.q rfl rfl rfl rfl (by decide) (Yd.mv rfl (.t rfl)) ?_
  refine W.q rfl rfl rfl rfl (by decide) (Yd.mv rfl (.t rfl)) ?_
  refine W.q rfl rfl rfl rfl (by decide) (Yd.call (v := .int .i64 r1) rfl Try.func44 rfl rfl (.cons (.t rfl) (.cons (.t rfl) (.cons (.t rfl) .nil))) (fun x' hx w hw => know_wrong_ok w0 x'.m x'.l n_0 _ _ (hcells_1.mono hx.1) event_2 _ hr2 w hw)) ?_
  refine W.q rfl rfl rfl rfl (by decide) (Yd.as rfl (.t rfl)) ?_
  refine W.end ?_
  refine NX.sub (env' := [(0, _), (1, _), (2, _), (8, _)]) ⟨rfl, rfl, rfl, rfl, trivial⟩ ?_
  refine NX.then ?_
  refine Tr.seq ?_
  refine Tr.region_f (fun _ => false) ?_
  refine W.q rfl rfl rfl rfl (by decide) (Yd.mv rfl (.t rfl)) ?_
  refine W.q rfl rfl rfl rfl (by decide) (Yd.neq rfl (.t rfl) .c) ?_
  refine W.end ?_
  refine NX.sub (env' := [(0, _), (1, _), (2, _), (8, _), (20, _)]) ⟨rfl, rfl, rfl, rfl, rfl, trivial⟩ ?_
  refine NX.then ?_
  refine Tr.cond (.t rfl) (fun hb => ?_) (fun hb => ?_)
  · have hr := cond_t hb hr
    refine Tr.seq ?_
    refine Tr.region_f (fun _ => false) ?_
    refine W.q rfl rfl rfl rfl (by decide) (Yd.mv rfl (.t rfl)) ?_
    refine W.q rfl rfl rfl rfl (by decide) (Yd.as rfl .c) ?_
    refine W.q rfl rfl rfl rfl (by decide) (Yd.as rfl (.t rfl)) ?_
    refine W.end ?_
    refine NX.sub (env' := [(6, _), (7, _)]) ⟨rfl, rfl, trivial⟩ ?_
    refine NX.then ?_
    refine Tr.ret' (RT.then ?_)
    refine res2 rfl rfl rfl ?_
    intro w hc
    cases hr
    exact ⟨_, _, rfl, (.refl _), (RS.nil _ _), hc⟩
  · have hr := cond_f hb hr
    refine Tr.skip' ?_
    refine NX.then ?_
    refine Tr.seq ?_
    refine Tr.region_f (fun _ => false) ?_
    refine W.q rfl rfl rfl rfl (by decide) (Yd.as rfl .c) ?_
    refine W.end ?_
    refine NX.sub (env' := [(0, _), (1, _), (2, _), (9, _)]) ⟨rfl, rfl, rfl, rfl, trivial⟩ ?_
    refine NX.then ?_
    refine Tr.seq ?_
    refine Tr.seq ?_
    refine Tr.region_f (fun _ => false) ?_
    refine W.q rfl rfl rfl rfl (by decide) (Yd.mv rfl (.t rfl)) ?_
    refine W.q rfl rfl rfl rfl (by decide) (Yd.lenR hcells_1 rfl Try.underlying22 (.t rfl)) ?_
    refine W.q rfl rfl rfl rfl (by decide) (Yd.mv rfl .c) ?_
    refine W.end ?_
    refine NX.sub (env' := [(0, _), (2, _), (9, _), (22, _), (23, _), (24, _)]) ⟨rfl, rfl, rfl, rfl, rfl, rfl, trivial⟩ ?_
    refine NX.then ?_
    refine Tr.addnil 28 1 ?_
    refine Tr.join (S := fun env x => ∃ l16 : List (List Int), ∃ m20 : Snap, ∃ v17 : Value, ∃ us18 : List Value, Sle m m20 ∧ Rows rI m20 us18 l16 ∧ env = [(9, v17)] ∧ x = ⟨m20, hown 28 1 v17 l16.length us18 :: l⟩ ∧ know_Hear_k21 l16 = some r) ?_ (fun hk22 => ?_)
    · rintro _ _ ⟨l16, m20, v17, us18, hsm20, hw19, rfl, rfl, hr⟩
      unfold know_Hear_k21 at hr
      try dsimp only at hr
      have hcells_1 := hcells_1.mono hsm20
      refine NX.then ?_
      refine Tr.seq ?_
      refine Tr.region_f (fun _ => false) ?_
      refine W.q rfl rfl rfl rfl (by decide) (Yd.mv rfl (.t rfl)) ?_
      refine W.q rfl rfl rfl rfl (by decide) (Yd.as rfl (.t rfl)) ?_
      refine W.q rfl rfl rfl rfl (by decide) (Yd.as rfl .c) ?_
      refine W.end ?_
      refine NX.sub (env' := [(6, _), (7, _)]) ⟨rfl, rfl, trivial⟩ ?_
      refine NX.then ?_
      refine Tr.ret' ?_
      refine res2 rfl rfl rfl ?_
      intro w hc
      cases hr
      obtain ⟨m23, hsm23, hu24, hc⟩ := cX_freezeR (p := 0) hc hw19 rfl
      have hcells_1 := hcells_1.mono hsm23
      have hw19 := hw19.mono hsm23
      exact ⟨_, _, rfl, (hsm20.trans hsm23), hu24, hc⟩
    have hlen25 := (hcells_1).2.1
    refine Tr.block ?_
    refine Tr.sub (env' := [(0, _), (2, _), (9, _), (22, _), (23, _), (24, _)]) ⟨rfl, rfl, rfl, rfl, rfl, rfl, trivial⟩ ?_
    refine Tr.loop (S := fun n (z : Int × (List (List Int))) env x => match z with | (t_26, l11) => ∃ m15 : Snap, ∃ v12 : Value, ∃ us13 : List Value, Sle m m15 ∧ Rows rI m15 us13 l11 ∧ env = [(0, .int .i64 n_0), (2, .int .u32 (event_2.toNat : Int)), (9, v12), (22, ucells_1), (23, .int .i64 ((cells_1.length : Int))), (24, .int .i64 t_26)] ∧ x = ⟨m15, hown 28 1 v12 l11.length us13 :: l⟩ ∧ n = ((cells_1.length : Int) - t_26).toNat ∧ 0 ≤ t_26 ∧ forK (σ := (List (List Int))) (fun i s nx_ => know_Hear_b27 n_0 cells_1 event_2 fuel i s nx_) (fun s => know_Hear_k21 s) n t_26 l11 = some r) _ ((0 : Int), ([] : List (List Int))) ⟨_, _, _, (.refl _), (Rows.nil _ _), rfl, rfl, rfl, (by omega), hr⟩ ?_
    rintro n29 ⟨t_26, l11⟩ env x ⟨m15, v12, us13, hsm15, hw14, rfl, rfl, hnt_26, h0t_26, hr⟩
    have hcells_1 := hcells_1.mono hsm15
    cases n29 with
    | zero =>
      simp only [forK] at hr
      refine Tr.seq ?_
      refine Tr.region_f (fun _ => false) ?_
      refine W.q rfl rfl rfl rfl (by decide) (Yd.lss rfl (.t rfl) (.t rfl)) ?_
      refine W.end ?_
      refine NX.sub (env' := [(0, _), (2, _), (9, _), (22, _), (23, _), (24, _), (25, _)]) ⟨rfl, rfl, rfl, rfl, rfl, rfl, rfl, trivial⟩ ?_
      refine NX.then ?_
      refine Tr.seq ?_
      refine Tr.cond (.t rfl) (fun hb => ?_) (fun hb => ?_)
      · exact absurd (hb.symm.trans (fr_end hnt_26)) (by decide)
      ·
        refine Tr.exit' (EX.then (EX.then (EX.block ?_)))
        refine NX.sub (env' := [(9, _)]) ⟨rfl, trivial⟩ ?_
        exact hk22 _ _ ⟨_, _, _, _, hsm15, hw14, rfl, rfl, hr⟩
    | succ n29 =>
      obtain ⟨nx28, hnx28, hr⟩ := forK_succ hr
      try dsimp only at hr
      unfold know_Hear_b27 at hr
      try dsimp only at hr
      have hltt_26 := fr_bnd hnt_26
      refine Tr.seq ?_
      refine Tr.region_f (fun _ => false) ?_
      refine W.q rfl rfl rfl rfl (by decide) (Yd.lss rfl (.t rfl) (.t rfl)) ?_
      refine W.end ?_
      refine NX.sub (env' := [(0, _), (2, _), (9, _), (22, _), (23, _), (24, _), (25, _)]) ⟨rfl, rfl, rfl, rfl, rfl, rfl, rfl, trivial⟩ ?_
      refine NX.then ?_
      refine Tr.seq ?_
      refine Tr.cond (.t rfl) (fun hb => ?_) (fun hb => ?_)
      rotate_left
      · exact absurd (hb.symm.trans (fr_go hnt_26)) (by decide)
      ·
        refine Tr.skip' ?_
        refine NX.then ?_
        refine Tr.seq ?_
        refine Tr.block ?_
        refine Tr.seq ?_
        obtain ⟨y30, hy31, hr⟩ := bind_some hr
        obtain ⟨u32, hu33, hat34⟩ := hcells_1.row hy31
        refine Tr.region_f (fun _ => false) ?_
        refine W.q rfl rfl rfl rfl (by decide) (Yd.idxR hcells_1 hy31 rfl Try.underlying22 SZ28 (.t rfl) (.t rfl)) ?_
        refine W.q rfl rfl rfl rfl (by decide) (Yd.ldRow hat34 (.refl _) rfl ON28 (.t rfl)) ?_
        refine W.q rfl rfl rfl rfl (by decide) (Yd.as rfl (.t rfl)) ?_
        refine W.end ?_
        refine NX.sub (env' := [(0, _), (2, _), (9, _), (22, _), (23, _), (24, _), (11, _)]) ⟨rfl, rfl, rfl, rfl, rfl, rfl, rfl, trivial⟩ ?_
        refine NX.then ?_
        refine Tr.seq ?_
        refine Tr.region_f (fun _ => false) ?_
        refine W.q rfl rfl rfl rfl (by decide) (Yd.as rfl .c) ?_
        refine W.end ?_
        refine NX.sub (env' := [(0, _), (2, _), (9, _), (22, _), (23, _), (24, _), (11, _), (12, _)]) ⟨rfl, rfl, rfl, rfl, rfl, rfl, rfl, rfl, trivial⟩ ?_
        refine NX.then ?_
        refine Tr.seq ?_
        refine Tr.seq ?_
        refine Tr.region_f (fun _ => false) ?_
        refine W.q rfl rfl rfl rfl (by decide) (Yd.mv rfl (.t rfl)) ?_
        refine W.q rfl rfl rfl rfl (by decide) (Yd.mv rfl .c) ?_
        refine W.end ?_
        refine NX.sub (env' := [(0, _), (2, _), (9, _), (22, _), (23, _), (24, _), (11, _), (12, _), (28, _), (29, _)]) ⟨rfl, rfl, rfl, rfl, rfl, rfl, rfl, rfl, rfl, rfl, trivial⟩ ?_
        refine NX.then ?_
        refine Tr.addnil 3 1 ?_
        refine Tr.join (S := fun env x => ∃ l42 : List Int, ∃ v43 : Value, env = [(0, .int .i64 n_0), (2, .int .u32 (event_2.toNat : Int)), (9, v12), (22, ucells_1), (23, .int .i64 ((cells_1.length : Int))), (24, .int .i64 t_26), (12, v43)] ∧ x = ⟨m15, hownT 3 1 encI v43 l42 :: hown 28 1 v12 l11.length us13 :: l⟩ ∧ know_Hear_k44 l11 nx28 l42 = some r) ?_ (fun hk45 => ?_)
        · rintro _ _ ⟨l42, v43, rfl, rfl, hr⟩
          unfold know_Hear_k44 at hr
          try dsimp only at hr
          refine NX.then ?_
          refine Tr.freezeT (enc := encI) (n := 1) (pos := 0) (fun _ => rfl) rfl (fun m46 hsm46 hu47 => ?_)
          have hcells_1 := hcells_1.mono hsm46
          have hw14 := hw14.mono hsm46
          have hu33 := hu33.mono hsm46
          refine Tr.cast (m' := m46) (l' := hown 28 1 v12 _ _ :: l) rfl rfl ?_
          obtain ⟨hq51, hr⟩ := guard_some hr; replace hq51 := of_decide_eq_true hq51
          refine Tr.region_f (fun i => Nat.beq i 2 || Nat.beq i 3) ?_
          refine W.q rfl rfl rfl rfl (by decide) (Yd.mv rfl (.t rfl)) ?_
          refine W.q rfl rfl rfl rfl (by decide) (Yd.mv rfl (.t rfl)) ?_
          refine W.e rfl rfl rfl rfl (by decide) (Ef.bsR hu47 IF28 rfl Try.underlying22 (.cons (.t rfl) .nil)) ?_
          rintro v48 _ rfl
          refine ⟨.inl rfl, ?_⟩
          refine W.cast (m' := m46) (l' := hown 28 1 v48 _ _ :: hown 28 1 v12 _ _ :: l) rfl rfl ?_
          refine W.e rfl rfl rfl rfl (by decide) (Ef.apR (pos := 1) (pos2 := 0) IF28 rfl hu47 rfl rfl Try.underlying22 rfl (.t rfl) (.t rfl) (by omega) (by omega)) ?_
          rintro v50 _ rfl
          refine ⟨.inl rfl, ?_⟩
          refine W.cast (m' := m46) (l' := hown 28 1 v48 _ _ :: hown 28 1 v50 _ _ :: l) rfl rfl ?_
          refine W.q rfl rfl rfl rfl (by decide) (Yd.as rfl (.t rfl)) ?_
          refine W.end ?_
          refine NX.sub (env' := [(0, _), (2, _), (9, _), (22, _), (23, _), (24, _)]) ⟨rfl, rfl, rfl, rfl, rfl, rfl, trivial⟩ ?_
          refine NX.drop (l' := hown 28 1 v50 _ _ :: l) (.cons _ (.cons_cons _ (.refl _))) ?_
          refine NX.block ?_
          refine NX.then ?_
          refine Tr.region_f (fun _ => false) ?_
          refine W.q rfl rfl rfl rfl (by decide) (Yd.add rfl (.t rfl) .c) ?_
          refine W.q rfl rfl rfl rfl (by decide) (Yd.mv rfl (.t rfl)) ?_
          refine W.end ?_
          refine NX.sub (env' := [(0, _), (2, _), (9, _), (22, _), (23, _), (24, _)]) ⟨rfl, rfl, rfl, rfl, rfl, rfl, trivial⟩ ?_
          refine NX.sub (env' := [(0, _), (2, _), (9, _), (22, _), (23, _), (24, _)]) ⟨rfl, rfl, rfl, rfl, rfl, rfl, trivial⟩ ?_
          have hw := w64_id (n := t_26 + 1) (by omega) (by omega)
          exact NX.again n29 (t_26 + 1, (l11 ++ [l42])) (Nat.lt_succ_self _) ⟨_, _, _, (hsm15.trans hsm46), (Rows.snoc hw14 hu47), (by rw [hw] <;> rfl), rfl, (fr_dec hnt_26), (by omega), ((hnx28 _).symm.trans hr)⟩
        obtain ⟨hle52, hr⟩ := guard_some hr; replace hle52 := of_decide_eq_true hle52
        refine Tr.block ?_
        refine Tr.sub (env' := [(0, _), (2, _), (9, _), (11, _), (12, _), (22, _), (23, _), (24, _), (28, _), (29, _)]) ⟨rfl, rfl, rfl, rfl, rfl, rfl, rfl, rfl, rfl, rfl, trivial⟩ ?_
        refine Tr.loop (S := fun n (z : Int × (List Int)) env x => match z with | (t_53, l40) => ∃ v41 : Value, env = [(0, .int .i64 n_0), (2, .int .u32 (event_2.toNat : Int)), (9, v12), (11, u32), (12, v41), (22, ucells_1), (23, .int .i64 ((cells_1.length : Int))), (24, .int .i64 t_26), (28, .int .i64 n_0), (29, .int .i64 t_53)] ∧ x = ⟨m15, hownT 3 1 encI v41 l40 :: hown 28 1 v12 l11.length us13 :: l⟩ ∧ n = (n_0 - t_53).toNat ∧ 0 ≤ t_53 ∧ forK (σ := (List Int)) (fun i s nx_ => know_Hear_b54 event_2 fuel y30 i s nx_) (fun s => know_Hear_k44 l11 nx28 s) n t_53 l40 = some r) _ ((0 : Int), ([] : List Int)) ⟨_, rfl, rfl, rfl, (by omega), hr⟩ ?_
        rintro n56 ⟨t_53, l40⟩ env x ⟨v41, rfl, rfl, hnt_53, h0t_53, hr⟩
        cases n56 with
        | zero =>
          simp only [forK] at hr
          refine Tr.seq ?_
          refine Tr.region_f (fun _ => false) ?_
          refine W.q rfl rfl rfl rfl (by decide) (Yd.lss rfl (.t rfl) (.t rfl)) ?_
          refine W.end ?_
          refine NX.sub (env' := [(0, _), (2, _), (9, _), (11, _), (12, _), (22, _), (23, _), (24, _), (28, _), (29, _), (30, _)]) ⟨rfl, rfl, rfl, rfl, rfl, rfl, rfl, rfl, rfl, rfl, rfl, trivial⟩ ?_
          refine NX.then ?_
          refine Tr.seq ?_
          refine Tr.cond (.t rfl) (fun hb => ?_) (fun hb => ?_)
          · exact absurd (hb.symm.trans (fr_end hnt_53)) (by decide)
          ·
            refine Tr.exit' (EX.then (EX.then (EX.block ?_)))
            refine NX.sub (env' := [(0, _), (2, _), (9, _), (22, _), (23, _), (24, _), (12, _)]) ⟨rfl, rfl, rfl, rfl, rfl, rfl, rfl, trivial⟩ ?_
            exact hk45 _ _ ⟨_, _, rfl, rfl, hr⟩
        | succ n56 =>
          obtain ⟨nx55, hnx55, hr⟩ := forK_succ hr
          try dsimp only at hr
          unfold know_Hear_b54 at hr
          try dsimp only at hr
          have hltt_53 := fr_bnd hnt_53
          refine Tr.seq ?_
          refine Tr.region_f (fun _ => false) ?_
          refine W.q rfl rfl rfl rfl (by decide) (Yd.lss rfl (.t rfl) (.t rfl)) ?_
          refine W.end ?_
          refine NX.sub (env' := [(0, _), (2, _), (9, _), (11, _), (12, _), (22, _), (23, _), (24, _), (28, _), (29, _), (30, _)]) ⟨rfl, rfl, rfl, rfl, rfl, rfl, rfl, rfl, rfl, rfl, rfl, trivial⟩ ?_
          refine NX.then ?_
          refine Tr.seq ?_
          refine Tr.cond (.t rfl) (fun hb => ?_) (fun hb => ?_)
          rotate_left
          · exact absurd (hb.symm.trans (fr_go hnt_53)) (by decide)
          ·
            refine Tr.skip' ?_
            refine NX.then ?_
            refine Tr.seq ?_
            refine Tr.block ?_
            refine Tr.seq ?_
            refine Tr.region_f (fun _ => false) ?_
            refine W.q rfl rfl rfl rfl (by decide) (Yd.mv rfl (.t rfl)) ?_
            refine W.q rfl rfl rfl rfl (by decide) (Yd.as rfl (.t rfl)) ?_
            refine W.end ?_
            refine NX.sub (env' := [(0, _), (2, _), (9, _), (11, _), (12, _), (22, _), (23, _), (24, _), (28, _), (29, _), (13, _)]) ⟨rfl, rfl, rfl, rfl, rfl, rfl, rfl, rfl, rfl, rfl, rfl, trivial⟩ ?_
            refine NX.then ?_
            refine Tr.seq ?_
            refine Tr.region_f (fun _ => false) ?_
            refine W.q rfl rfl rfl rfl (by decide) (Yd.as rfl .c) ?_
            refine W.end ?_
            refine NX.sub (env' := [(0, _), (2, _), (9, _), (11, _), (12, _), (22, _), (23, _), (24, _), (28, _), (29, _), (13, _), (14, _)]) ⟨rfl, rfl, rfl, rfl, rfl, rfl, rfl, rfl, rfl, rfl, rfl, rfl, trivial⟩ ?_
            refine NX.then ?_
            refine Tr.seq ?_
            refine Tr.join (S := fun env x => ∃ v_59 : Int, env = [(0, .int .i64 n_0), (2, .int .u32 (event_2.toNat : Int)), (9, v12), (11, u32), (12, v41), (22, ucells_1), (23, .int .i64 ((cells_1.length : Int))), (24, .int .i64 t_26), (28, .int .i64 n_0), (29, .int .i64 t_53), (14, .int .i64 v_59)] ∧ x = ⟨m15, hownT 3 1 encI v41 l40 :: hown 28 1 v12 l11.length us13 :: l⟩ ∧ know_Hear_k60 l40 nx55 v_59 = some r) ?_ (fun hk61 => ?_)
            · rintro _ _ ⟨v_59, rfl, rfl, hr⟩
              unfold know_Hear_k60 at hr
              try dsimp only at hr
              refine NX.then ?_
              obtain ⟨hq65, hr⟩ := guard_some hr; replace hq65 := of_decide_eq_true hq65
              refine Tr.region_f (fun i => Nat.beq i 2 || Nat.beq i 3) ?_
              refine W.q rfl rfl rfl rfl (by decide) (Yd.mv rfl (.t rfl)) ?_
              refine W.q rfl rfl rfl rfl (by decide) (Yd.mv rfl (.t rfl)) ?_
              refine W.e rfl rfl rfl rfl (by decide) (Ef.bsT (enc := encI) (vs := [_]) (ys := [v_59]) (fun _ => rfl) IF3 rfl Try.underlying28 (by decide) rfl (.cons (.t rfl) .nil) rfl rfl (by decide)) ?_
              rintro v62 _ rfl
              refine ⟨.inl rfl, ?_⟩
              refine W.cast (m' := m15) (l' := hownT 3 1 encI v62 _ :: hownT 3 1 encI v41 _ :: hown 28 1 v12 _ _ :: l) rfl rfl ?_
              refine W.e rfl rfl rfl rfl (by decide) (Ef.apI (pos := 1) (enc := encI) (xs := l40) (ys := ([v_59] : List Int)) (fun _ => rfl) IF3 rfl rfl Try.underlying28 rfl (by decide) (.t rfl) (.t rfl) (Src.own (pos := 0) rfl) (fun _ => rfl) (by omega) (by omega)) ?_
              rintro v64 _ rfl
              refine ⟨.inl rfl, ?_⟩
              refine W.cast (m' := m15) (l' := hownT 3 1 encI v62 _ :: hownT 3 1 encI v64 _ :: hown 28 1 v12 _ _ :: l) rfl rfl ?_
              refine W.q rfl rfl rfl rfl (by decide) (Yd.as rfl (.t rfl)) ?_
              refine W.end ?_
              refine NX.sub (env' := [(0, _), (2, _), (9, _), (11, _), (12, _), (22, _), (23, _), (24, _), (28, _), (29, _)]) ⟨rfl, rfl, rfl, rfl, rfl, rfl, rfl, rfl, rfl, rfl, trivial⟩ ?_
              refine NX.drop (l' := hownT 3 1 encI v64 _ :: hown 28 1 v12 _ _ :: l) (.cons _ (.cons_cons _ (.cons_cons _ (.refl _)))) ?_
              refine NX.block ?_
              refine NX.then ?_
              refine Tr.region_f (fun _ => false) ?_
              refine W.q rfl rfl rfl rfl (by decide) (Yd.add rfl (.t rfl) .c) ?_
              refine W.q rfl rfl rfl rfl (by decide) (Yd.mv rfl (.t rfl)) ?_
              refine W.end ?_
              refine NX.sub (env' := [(0, _), (2, _), (9, _), (11, _), (12, _), (22, _), (23, _), (24, _), (28, _), (29, _)]) ⟨rfl, rfl, rfl, rfl, rfl, rfl, rfl, rfl, rfl, rfl, trivial⟩ ?_
              refine NX.sub (env' := [(0, _), (2, _), (9, _), (11, _), (12, _), (22, _), (23, _), (24, _), (28, _), (29, _)]) ⟨rfl, rfl, rfl, rfl, rfl, rfl, rfl, rfl, rfl, rfl, trivial⟩ ?_
              have hw := w64_id (n := t_53 + 1) (by omega) (by omega)
              exact NX.again n56 (t_53 + 1, (l40 ++ ([v_59] : List Int))) (Nat.lt_succ_self _) ⟨_, (by rw [hw] <;> rfl), rfl, (fr_dec hnt_53), (by omega), ((hnx55 _).symm.trans hr)⟩
            refine Tr.block ?_
            refine Tr.sub (env' := [(0, _), (2, _), (9, _), (11, _), (12, _), (13, _), (14, _), (22, _), (23, _), (24, _), (28, _), (29, _)]) ⟨rfl, rfl, rfl, rfl, rfl, rfl, rfl, rfl, rfl, rfl, rfl, rfl, trivial⟩ ?_
            refine Tr.loop (S := fun n (z : Int) env x => match z with | v_58 => env = [(0, .int .i64 n_0), (2, .int .u32 (event_2.toNat : Int)), (9, v12), (11, u32), (12, v41), (13, .int .i64 t_53), (14, .int .i64 v_58), (22, ucells_1), (23, .int .i64 ((cells_1.length : Int))), (24, .int .i64 t_26), (28, .int .i64 n_0), (29, .int .i64 t_53)] ∧ x = ⟨m15, hownT 3 1 encI v41 l40 :: hown 28 1 v12 l11.length us13 :: l⟩ ∧ whileK (σ := Int) (fun s nx_ => know_Hear_b66 event_2 y30 t_53 l40 nx55 s nx_) n v_58 = some r) _ (0 : Int) ⟨rfl, rfl, hr⟩ ?_
            rintro n68 v_58 env x ⟨rfl, rfl, hr⟩
            cases n68 with
            | zero => simp [whileK] at hr
            | succ n68 =>
              obtain ⟨nx67, hnx67, hr⟩ := whileK_succ hr
              try dsimp only at hr
              unfold know_Hear_b66 at hr
              try dsimp only at hr
              refine Tr.seq ?_
              refine Tr.seq ?_
              obtain ⟨y69, hy70, hr⟩ := bind_some hr
              obtain ⟨y71, hy72, hr⟩ := bind_some hr
              obtain ⟨hq73, hr⟩ := guard_some hr
              refine Tr.region_x (fun _ => false) (fun _ => false) (Ord.of [0, 1, 2, 3, 4, 5, 6, 7, 8, 9, 10, 11, 12, 13, 14, 15, 16, 17, 18, 19]) FM (by kernel_rfl) ?_
              refine W.q rfl rfl rfl rfl (by decide) (Yd.mv rfl (.t rfl)) ?_
              refine W.q rfl rfl rfl rfl (by decide) (Yd.mv rfl (.t rfl)) ?_
              refine W.q rfl rfl rfl rfl (by decide) (Yd.idxR hu33 hy70 rfl Try.underlying28 SZ3 (.t rfl) (.t rfl)) ?_
              refine W.q rfl rfl rfl rfl (by decide) (Yd.ldF hu33 (.refl _) hy70 rfl rfl ON3 (.t rfl)) ?_
              refine W.q rfl rfl rfl rfl (by decide) (Yd.mv rfl (.t rfl)) ?_
              refine W.q rfl rfl rfl rfl (by decide) (Yd.mv rfl (.t rfl)) ?_
              refine W.q rfl rfl rfl rfl (by decide) (Yd.idxR hu33 hy72 rfl Try.underlying28 SZ3 (.t rfl) (.t rfl)) ?_
              refine W.q rfl rfl rfl rfl (by decide) (Yd.ldF hu33 (.refl _) hy72 rfl rfl ON3 (.t rfl)) ?_
              refine W.q rfl rfl rfl rfl (by decide) (Yd.neq rfl (.t rfl) (.t rfl)) ?_
              refine W.q rfl rfl rfl rfl (by decide) (Yd.mv rfl (.t rfl)) ?_
              refine W.g rfl rfl rfl rfl rfl (.t rfl _) rfl (by decide) (fun hG => Yd.mv rfl (.t rfl)) ?_
              refine W.g rfl rfl rfl rfl rfl (.t rfl _) rfl (by decide) (fun hG => Yd.mv rfl (.t rfl)) ?_
              refine W.g rfl rfl rfl rfl rfl (.t rfl _) rfl (by decide) (fun hG => Yd.shrU (a := event_2) rfl (.g rfl hG) (.g rfl hG) h0t_53) ?_
              refine W.g rfl rfl rfl rfl rfl (.t rfl _) rfl (by decide) (fun hG => Yd.andU (a := (event_2 >>> t_53.toNat)) (b := 1#32) rfl (.g rfl hG) .c) ?_
              refine W.g rfl rfl rfl rfl rfl (.t rfl _) rfl (by decide) (fun hG => Yd.mv rfl (.t rfl)) ?_
              refine W.g rfl rfl rfl rfl rfl (.t rfl _) rfl (by decide) (fun hG => Yd.mv rfl (.t rfl)) ?_
              refine W.g rfl rfl rfl rfl rfl (.t rfl _) rfl (by decide) (fun hG => Yd.shrU (a := event_2) rfl (.g rfl hG) (.g rfl hG) (gd_dec hq73 hG)) ?_
              refine W.g rfl rfl rfl rfl rfl (.t rfl _) rfl (by decide) (fun hG => Yd.andU (a := (event_2 >>> v_58.toNat)) (b := 1#32) rfl (.g rfl hG) .c) ?_
              refine W.g rfl rfl rfl rfl rfl (.t rfl _) rfl (by decide) (fun hG => Yd.neqU (a := ((event_2 >>> t_53.toNat) &&& 1#32)) (b := ((event_2 >>> v_58.toNat) &&& 1#32)) rfl (.g rfl hG) (.g rfl hG)) ?_
              refine W.q rfl rfl rfl rfl (by decide) (Yd.or rfl (.t rfl) .c rfl rfl) ?_
              refine W.end ?_
              refine NX.sub (env' := [(0, _), (2, _), (9, _), (11, _), (12, _), (13, _), (14, _), (22, _), (23, _), (24, _), (28, _), (29, _), (51, _)]) ⟨rfl, rfl, rfl, rfl, rfl, rfl, rfl, rfl, rfl, rfl, rfl, rfl, rfl, trivial⟩ ?_
              refine NX.then ?_
              refine Tr.cond (.t rfl) (fun hb => ?_) (fun hb => ?_)
              · have hr := cond_t hb hr
                refine Tr.skip' ?_
                refine NX.then ?_
                refine Tr.block ?_
                refine Tr.region_f (fun _ => false) ?_
                refine W.q rfl rfl rfl rfl (by decide) (Yd.mv rfl (.t rfl)) ?_
                refine W.q rfl rfl rfl rfl (by decide) (Yd.add rfl (.t rfl) .c) ?_
                refine W.q rfl rfl rfl rfl (by decide) (Yd.as rfl (.t rfl)) ?_
                refine W.end ?_
                refine NX.sub (env' := [(0, _), (2, _), (9, _), (11, _), (12, _), (13, _), (14, _), (22, _), (23, _), (24, _), (28, _), (29, _)]) ⟨rfl, rfl, rfl, rfl, rfl, rfl, rfl, rfl, rfl, rfl, rfl, rfl, trivial⟩ ?_
                refine NX.block ?_
                refine NX.sub (env' := [(0, _), (2, _), (9, _), (11, _), (12, _), (13, _), (14, _), (22, _), (23, _), (24, _), (28, _), (29, _)]) ⟨rfl, rfl, rfl, rfl, rfl, rfl, rfl, rfl, rfl, rfl, rfl, rfl, trivial⟩ ?_
                exact NX.again n68 (w64 (v_58 + (1 : Int))) (Nat.lt_succ_self _) ⟨rfl, rfl, ((hnx67 _).symm.trans hr)⟩
              · have hr := cond_f hb hr
                refine Tr.exit' (EX.then (EX.then (EX.block ?_)))
                refine NX.sub (env' := [(0, _), (2, _), (9, _), (11, _), (12, _), (22, _), (23, _), (24, _), (28, _), (29, _), (14, _)]) ⟨rfl, rfl, rfl, rfl, rfl, rfl, rfl, rfl, rfl, rfl, rfl, trivial⟩ ?_
                exact hk61 _ _ ⟨_, rfl, rfl, hr⟩

def syllogistref_Fits (n_0 : Int) (s_1 : (BitVec 32)) : Option (Bool) :=
  some (((decide (n_0 ≥ (32 : Int))) || ((decide (n_0 ≥ (0 : Int))) && (decide (s_1 < (1#32 <<< ((BitVec.ofInt 64 n_0)).toNat))))))

set_option maxRecDepth 100000 in
theorem syllogistref_Fits_ok (w0 : World) (m : Snap) (l : List HI) (n_0 : Int) (s_1 : (BitVec 32)) (r : Bool) (hr : syllogistref_Fits n_0 s_1 = some r) (w : World) (hc : cX w0 ⟨m, l⟩ w) :
    Calls Try.prog 45 [.int .i64 n_0, .int .u32 (s_1.toNat : Int)].toArray w fun e w' => e = .returned (.bool r) ∧ cX w0 ⟨m, l⟩ w' := by
  unfold syllogistref_Fits at hr
  refine calls_of_Tr (N := 18) Try.func45 rfl hc rfl (Nat.le_of_ble_eq_true rfl) ?_
  refine Tr.seq ?_
  refine Tr.region_f (fun _ => false) ?_
  refine W.q rfl rfl rfl rfl (by decide) (Yd.as rfl .c) ?_
  refine W.end ?_
  refine NX.sub (env' := [(0, _), (1, _)]) ⟨rfl, rfl, trivial⟩ ?_
  refine NX.then ?_
  refine Tr.seq ?_
  refine Tr.region_f (fun _ => false) ?_
  refine W.q rfl rfl rfl rfl (by decide) (Yd.mv rfl (.t rfl)) ?_
  refine W.q rfl rfl rfl rfl (by decide) (Yd.geq rfl (.t rfl) .c) ?_
  refine W.q rfl rfl rfl rfl (by decide) (Yd.mv rfl (.t rfl)) ?_
  refine W.g rfl rfl rfl rfl rfl (.t rfl _) rfl (by decide) (fun hG => Yd.mv rfl (.t rfl)) ?_
  refine W.g rfl rfl rfl rfl rfl (.t rfl _) rfl (by decide) (fun hG => Yd.geq rfl (.g rfl hG) .c) ?_
  refine W.g rfl rfl rfl rfl rfl (.t rfl _) rfl (by decide) (fun hG => Yd.mv rfl (.g rfl hG)) ?_
  refine W.g rfl rfl rfl rfl rfl (.g rfl _) rfl (by decide) (fun hG => Yd.mv rfl (.t rfl)) ?_
  refine W.g rfl rfl rfl rfl rfl (.g rfl _) rfl (by decide) (fun hG => Yd.mv rfl (.t rfl)) ?_
  refine W.g rfl rfl rfl rfl rfl (.g rfl _) rfl (by decide) (fun hG => Yd.cvQ rfl US3 Try.underlying72 (.g rfl hG)) ?_
  refine W.g rfl rfl rfl rfl rfl (.g rfl _) rfl (by decide) (fun hG => Yd.shlU (a := 1#32) rfl .c (.g rfl hG) (Int.natCast_nonneg _)) ?_
  refine W.g rfl rfl rfl rfl rfl (.g rfl _) rfl (by decide) (fun hG => Yd.lssU (a := s_1) (b := (1#32 <<< ((BitVec.ofInt 64 n_0)).toNat)) rfl (.g rfl hG) (.g rfl hG)) ?_
  refine W.g rfl rfl rfl rfl rfl (.t rfl _) rfl (by decide) (fun hG => Yd.andG rfl (.g rfl hG) .c rfl rfl hG) ?_
  refine W.q rfl rfl rfl rfl (by decide) (Yd.or rfl (.t rfl) .c rfl rfl) ?_
  refine W.q rfl rfl rfl rfl (by decide) (Yd.as rfl (.t rfl)) ?_
  refine W.end ?_
  refine NX.sub (env' := [(4, _)]) ⟨rfl, trivial⟩ ?_
  refine NX.then ?_
  refine Tr.ret' ?_
  refine res1 rfl rfl ?_
  intro w hc
  cases hr
  exact ⟨rfl, hc⟩

def syllogistref_KnowCheck_k3 (n_0 : Int) (event_2 : (BitVec 32)) : Option (Int) :=
  (syllogistref_Fits n_0 event_2).bind fun r5 =>
  (bif (!r5) then
  some ((4 : Int))
  else
  some ((0 : Int)))

def syllogistref_KnowCheck_b9 (n_0 : Int) (cells_1 : List (List Int)) (t_8 : Int) (nx10 : Unit → Option (Int)) : Option (Int) :=
  (geti cells_1 t_8).bind fun y12 =>
  (bif ((y12.length : Int) != n_0) then
  some ((3 : Int))
  else
  nx10 ())

def syllogistref_KnowCheck (n_0 : Int) (cells_1 : List (List Int)) (event_2 : (BitVec 32)) : Option (Int) :=
  (bif ((((decide (n_0 < (1 : Int))) || (decide (n_0 > (6 : Int)))) || (decide ((cells_1.length : Int) < (1 : Int)))) || (decide ((cells_1.length : Int) > (5 : Int)))) then
  some ((1 : Int))
  else
  forK (σ := Unit) (fun i s nx_ => syllogistref_KnowCheck_b9 n_0 cells_1 i nx_) (fun _ => syllogistref_KnowCheck_k3 n_0 event_2) ((cells_1.length : Int) - (0 : Int)).toNat (0 : Int) ())

set_option maxRecDepth 100000 in
theorem syllogistref_KnowCheck_ok (w0 : World) (m : Snap) (l : List HI) (n_0 : Int) (ucells_1 : Value) (cells_1 : List (List Int)) (hcells_1 : RS (Rp.slice rI) m ucells_1 cells_1) (event_2 : (BitVec 32)) (r : Int) (hr : syllogistref_KnowCheck n_0 cells_1 event_2 = some r) (w : World) (hc : cX w0 ⟨m, l⟩ w) :
    Calls Try.prog 16 [.int .i64 n_0, ucells_1, .int .u32 (event_2.toNat : Int)].toArray w fun e w' => e = .returned (.int .i64 r) ∧ cX w0 ⟨m, l⟩ w' := by
  unfold syllogistref_KnowCheck at hr
  refine calls_of_Tr (N := 40) Try.func16 rfl hc rfl (Nat.le_of_ble_eq_true rfl) ?_
  refine Tr.seq ?_
  refine Tr.region_f (fun _ => false) ?_
  refine W.q rfl rfl rfl rfl (by decide) (Yd.as rfl .c) ?_
  refine W.end ?_
  refine NX.sub (env' := [(0, _), (1, _), (2, _)]) ⟨rfl, rfl, rfl, trivial⟩ ?_
  refine NX.then ?_
  refine Tr.seq ?_
  refine Tr.seq ?_
  refine Tr.region_f (fun _ => false) ?_
  refine W.q rfl rfl rfl rfl (by decide) (Yd.mv rfl (.t rfl)) ?_
  refine W.q rfl rfl rfl rfl (by decide) (Yd.lss rfl (.t rfl) .c) ?_
  refine W.q rfl rfl rfl rfl (by decide) (Yd.mv rfl (.t rfl)) ?_
  refine W.g rfl rfl rfl rfl rfl (.t rfl _) rfl (by decide) (fun hG => Yd.mv rfl (.t rfl)) ?_
  refine W.g rfl rfl rfl rfl rfl (.t rfl _) rfl (by decide) (fun hG => Yd.gtr rfl (.g rfl hG) .c) ?_
  refine W.q rfl rfl rfl rfl (by decide) (Yd.or rfl (.t rfl) .c rfl rfl) ?_
  refine W.q rfl rfl rfl rfl (by decide) (Yd.mv rfl (.t rfl)) ?_
  refine W.g rfl rfl rfl rfl rfl (.t rfl _) rfl (by decide) (fun hG => Yd.mv rfl (.t rfl)) ?_
  refine W.g rfl rfl rfl rfl rfl (.t rfl _) rfl (by decide) (fun hG => Yd.lenR hcells_1 rfl Try.underlying22 (.g rfl hG)) ?_
  refine W.g rfl rfl rfl rfl rfl (.t rfl _) rfl (by decide) (fun hG => Yd.lss rfl (.g rfl hG) .c) ?_
  refine W.q rfl rfl rfl rfl (by decide) (Yd.or rfl (.t rfl) .c rfl rfl) ?_
  refine W.q rfl rfl rfl rfl (by decide) (Yd.mv rfl (.t rfl)) ?_
  refine W.g rfl rfl rfl rfl rfl (.t rfl _) rfl (by decide) (fun hG => Yd.mv rfl (.t rfl)) ?_
  refine W.g rfl rfl rfl rfl rfl (.t rfl _) rfl (by decide) (fun hG => Yd.lenR hcells_1 rfl Try.underlying22 (.g rfl hG)) ?_
  refine W.g rfl rfl rfl rfl rfl (.t rfl _) rfl (by decide) (fun hG => Yd.gtr rfl (.g rfl hG) .c) ?_
  refine W.q rfl rfl rfl rfl (by decide) (Yd.or rfl (.t rfl) .c rfl rfl) ?_
  refine W.end ?_
  refine NX.sub (env' := [(0, _), (1, _), (2, _), (24, _)]) ⟨rfl, rfl, rfl, rfl, trivial⟩ ?_
  refine NX.then ?_
  refine Tr.cond (.t rfl) (fun hb => ?_) (fun hb => ?_)
  · have hr := cond_t hb hr
    refine Tr.seq ?_
    refine Tr.region_f (fun _ => false) ?_
    refine W.q rfl rfl rfl rfl (by decide) (Yd.as rfl .c) ?_
    refine W.end ?_
    refine NX.sub (env' := [(6, _)]) ⟨rfl, trivial⟩ ?_
    refine NX.then ?_
    refine Tr.ret' (RT.then ?_)
    refine res1 rfl rfl ?_
    intro w hc
    cases hr
    exact ⟨rfl, hc⟩
  · have hr := cond_f hb hr
    refine Tr.skip' ?_
    refine NX.then ?_
    refine Tr.seq ?_
    refine Tr.seq ?_
    refine Tr.region_f (fun _ => false) ?_
    refine W.q rfl rfl rfl rfl (by decide) (Yd.mv rfl (.t rfl)) ?_
    refine W.q rfl rfl rfl rfl (by decide) (Yd.lenR hcells_1 rfl Try.underlying22 (.t rfl)) ?_
    refine W.q rfl rfl rfl rfl (by decide) (Yd.mv rfl .c) ?_
    refine W.end ?_
    refine NX.sub (env' := [(0, _), (2, _), (25, _), (26, _), (27, _)]) ⟨rfl, rfl, rfl, rfl, rfl, trivial⟩ ?_
    refine NX.then ?_
    refine Tr.join (S := fun env x => env = [(0, .int .i64 n_0), (2, .int .u32 (event_2.toNat : Int))] ∧ x = ⟨m, l⟩ ∧ syllogistref_KnowCheck_k3 n_0 event_2 = some r) ?_ (fun hk4 => ?_)
    · rintro _ _ ⟨rfl, rfl, hr⟩
      unfold syllogistref_KnowCheck_k3 at hr
      try dsimp only at hr
      refine NX.then ?_
      refine Tr.seq ?_
      refine Tr.seq ?_
      obtain ⟨r5, hr6, hr⟩ := bind_some hr
      refine Tr.region_f (fun _ => false) ?_
      refine W.q rfl rfl rfl rfl (by decide) (Yd.mv rfl (.t rfl)) ?_
      refine W.q rfl rfl rfl rfl (by decide) (Yd.mv rfl (.t rfl)) ?_
      refine W.q rfl rfl rfl rfl (by decide) (Yd.call (v := .bool r5) rfl Try.func45 rfl rfl (.cons (.t rfl) (.cons (.t rfl) .nil)) (fun x' hx w hw => syllogistref_Fits_ok w0 x'.m x'.l n_0 event_2 _ hr6 w hw)) ?_
      refine W.q rfl rfl rfl rfl (by decide) (Yd.not rfl (.t rfl)) ?_
      refine W.end ?_
      refine NX.sub (env' := [(39, _)]) ⟨rfl, trivial⟩ ?_
      refine NX.then ?_
      refine Tr.cond (.t rfl) (fun hb => ?_) (fun hb => ?_)
      · have hr := cond_t hb hr
        refine Tr.seq ?_
        refine Tr.region_f (fun _ => false) ?_
        refine W.q rfl rfl rfl rfl (by decide) (Yd.as rfl .c) ?_
        refine W.end ?_
        refine NX.sub (env' := [(6, _)]) ⟨rfl, trivial⟩ ?_
        refine NX.then ?_
        refine Tr.ret' (RT.then ?_)
        refine res1 rfl rfl ?_
        intro w hc
        cases hr
        exact ⟨rfl, hc⟩
      · have hr := cond_f hb hr
        refine Tr.skip' ?_
        refine NX.then ?_
        refine Tr.seq ?_
        refine Tr.region_f (fun _ => false) ?_
        refine W.q rfl rfl rfl rfl (by decide) (Yd.as rfl .c) ?_
        refine W.end ?_
        refine NX.sub (env' := [(6, _)]) ⟨rfl, trivial⟩ ?_
        refine NX.then ?_
        refine Tr.ret' ?_
        refine res1 rfl rfl ?_
        intro w hc
        cases hr
        exact ⟨rfl, hc⟩
    have hlen7 := (hcells_1).2.1
    refine Tr.block ?_
    refine Tr.sub (env' := [(0, _), (2, _), (25, _), (26, _), (27, _)]) ⟨rfl, rfl, rfl, rfl, rfl, trivial⟩ ?_
    refine Tr.loop (S := fun n (z : Int × Unit) env x => match z with | (t_8, _) => env = [(0, .int .i64 n_0), (2, .int .u32 (event_2.toNat : Int)), (25, ucells_1), (26, .int .i64 ((cells_1.length : Int))), (27, .int .i64 t_8)] ∧ x = ⟨m, l⟩ ∧ n = ((cells_1.length : Int) - t_8).toNat ∧ 0 ≤ t_8 ∧ forK (σ := Unit) (fun i s nx_ => syllogistref_KnowCheck_b9 n_0 cells_1 i nx_) (fun _ => syllogistref_KnowCheck_k3 n_0 event_2) n t_8 () = some r) _ ((0 : Int), ()) ⟨rfl, rfl, rfl, (by omega), hr⟩ ?_
    rintro n11 ⟨t_8, _⟩ env x ⟨rfl, rfl, hnt_8, h0t_8, hr⟩
    cases n11 with
    | zero =>
      simp only [forK] at hr
      refine Tr.seq ?_
      refine Tr.region_f (fun _ => false) ?_
      refine W.q rfl rfl rfl rfl (by decide) (Yd.lss rfl (.t rfl) (.t rfl)) ?_
      refine W.end ?_
      refine NX.sub (env' := [(0, _), (2, _), (25, _), (26, _), (27, _), (28, _)]) ⟨rfl, rfl, rfl, rfl, rfl, rfl, trivial⟩ ?_
      refine NX.then ?_
      refine Tr.seq ?_
      refine Tr.cond (.t rfl) (fun hb => ?_) (fun hb => ?_)
      · exact absurd (hb.symm.trans (fr_end hnt_8)) (by decide)
      ·
        refine Tr.exit' (EX.then (EX.then (EX.block ?_)))
        refine NX.sub (env' := [(0, _), (2, _)]) ⟨rfl, rfl, trivial⟩ ?_
        exact hk4 _ _ ⟨rfl, rfl, hr⟩
    | succ n11 =>
      obtain ⟨nx10, hnx10, hr⟩ := forK_succ hr
      try dsimp only at hr
      unfold syllogistref_KnowCheck_b9 at hr
      try dsimp only at hr
      have hltt_8 := fr_bnd hnt_8
      refine Tr.seq ?_
      refine Tr.region_f (fun _ => false) ?_
      refine W.q rfl rfl rfl rfl (by decide) (Yd.lss rfl (.t rfl) (.t rfl)) ?_
      refine W.end ?_
      refine NX.sub (env' := [(0, _), (2, _), (25, _), (26, _), (27, _), (28, _)]) ⟨rfl, rfl, rfl, rfl, rfl, rfl, trivial⟩ ?_
      refine NX.then ?_
      refine Tr.seq ?_
      refine Tr.cond (.t rfl) (fun hb => ?_) (fun hb => ?_)
      rotate_left
      · exact absurd (hb.symm.trans (fr_go hnt_8)) (by decide)
      ·
        refine Tr.skip' ?_
        refine NX.then ?_
        refine Tr.seq ?_
        refine Tr.block ?_
        refine Tr.seq ?_
        obtain ⟨y12, hy13, hr⟩ := bind_some hr
        obtain ⟨u14, hu15, hat16⟩ := hcells_1.row hy13
        refine Tr.region_f (fun _ => false) ?_
        refine W.q rfl rfl rfl rfl (by decide) (Yd.idxR hcells_1 hy13 rfl Try.underlying22 SZ28 (.t rfl) (.t rfl)) ?_
        refine W.q rfl rfl rfl rfl (by decide) (Yd.ldRow hat16 (.refl _) rfl ON28 (.t rfl)) ?_
        refine W.q rfl rfl rfl rfl (by decide) (Yd.as rfl (.t rfl)) ?_
        refine W.end ?_
        refine NX.sub (env' := [(0, _), (2, _), (25, _), (26, _), (27, _), (8, _)]) ⟨rfl, rfl, rfl, rfl, rfl, rfl, trivial⟩ ?_
        refine NX.then ?_
        refine Tr.seq ?_
        refine Tr.region_f (fun _ => false) ?_
        refine W.q rfl rfl rfl rfl (by decide) (Yd.mv rfl (.t rfl)) ?_
        refine W.q rfl rfl rfl rfl (by decide) (Yd.lenR hu15 rfl Try.underlying28 (.t rfl)) ?_
        refine W.q rfl rfl rfl rfl (by decide) (Yd.mv rfl (.t rfl)) ?_
        refine W.q rfl rfl rfl rfl (by decide) (Yd.neq rfl (.t rfl) (.t rfl)) ?_
        refine W.end ?_
        refine NX.sub (env' := [(0, _), (2, _), (25, _), (26, _), (27, _), (34, _)]) ⟨rfl, rfl, rfl, rfl, rfl, rfl, trivial⟩ ?_
        refine NX.then ?_
        refine Tr.cond (.t rfl) (fun hb => ?_) (fun hb => ?_)
        · have hr := cond_t hb hr
          refine Tr.seq ?_
          refine Tr.region_f (fun _ => false) ?_
          refine W.q rfl rfl rfl rfl (by decide) (Yd.as rfl .c) ?_
          refine W.end ?_
          refine NX.sub (env' := [(6, _)]) ⟨rfl, trivial⟩ ?_
          refine NX.then ?_
          refine Tr.ret' (RT.block (RT.then (RT.then (RT.block (RT.then ?_)))))
          refine res1 rfl rfl ?_
          intro w hc
          cases hr
          exact ⟨rfl, hc⟩
        · have hr := cond_f hb hr
          refine Tr.skip' ?_
          refine NX.block ?_
          refine NX.then ?_
          refine Tr.region_f (fun _ => false) ?_
          refine W.q rfl rfl rfl rfl (by decide) (Yd.add rfl (.t rfl) .c) ?_
          refine W.q rfl rfl rfl rfl (by decide) (Yd.mv rfl (.t rfl)) ?_
          refine W.end ?_
          refine NX.sub (env' := [(0, _), (2, _), (25, _), (26, _), (27, _)]) ⟨rfl, rfl, rfl, rfl, rfl, trivial⟩ ?_
          refine NX.sub (env' := [(0, _), (2, _), (25, _), (26, _), (27, _)]) ⟨rfl, rfl, rfl, rfl, rfl, trivial⟩ ?_
          have hw := w64_id (n := t_8 + 1) (by omega) (by omega)
          exact NX.again n11 (t_8 + 1, ()) (Nat.lt_succ_self _) ⟨(by rw [hw] <;> rfl), rfl, (fr_dec hnt_8), (by omega), ((hnx10 _).symm.trans hr)⟩

def syllogistref_Bit (w_0 : (BitVec 32)) (i_1 : Int) : Option (Bool) :=
  some ((((decide (i_1 ≥ (0 : Int))) && (decide (i_1 < (32 : Int)))) && ((w_0 &&& (1#32 <<< ((BitVec.ofInt 64 i_1)).toNat)) != 0#32)))

set_option maxRecDepth 100000 in
theorem syllogistref_Bit_ok (w0 : World) (m : Snap) (l : List HI) (w_0 : (BitVec 32)) (i_1 : Int) (r : Bool) (hr : syllogistref_Bit w_0 i_1 = some r) (w : World) (hc : cX w0 ⟨m, l⟩ w) :
    Calls Try.prog 17 [.int .u32 (w_0.toNat : Int), .int .i64 i_1].toArray w fun e w' => e = .returned (.bool r) ∧ cX w0 ⟨m, l⟩ w' := by
  unfold syllogistref_Bit at hr
  refine calls_of_Tr (N := 19) Try.func17 rfl hc rfl (Nat.le_of_ble_eq_true rfl) ?_
  refine Tr.seq ?_
  refine Tr.region_f (fun _ => false) ?_
  refine W.q rfl rfl rfl rfl (by decide) (Yd.as rfl .c) ?_
  refine W.end ?_
  refine NX.sub (env' := [(0, _), (1, _)]) ⟨rfl, rfl, trivial⟩ ?_
  refine NX.then ?_
  refine Tr.seq ?_
  refine Tr.region_f (fun _ => false) ?_
  refine W.q rfl rfl rfl rfl (by decide) (Yd.mv rfl (.t rfl)) ?_
  refine W.q rfl rfl rfl rfl (by decide) (Yd.geq rfl (.t rfl) .c) ?_
  refine W.q rfl rfl rfl rfl (by decide) (Yd.mv rfl (.t rfl)) ?_
  refine W.g rfl rfl rfl rfl rfl (.t rfl _) rfl (by decide) (fun hG => Yd.mv rfl (.t rfl)) ?_
  refine W.g rfl rfl rfl rfl rfl (.t rfl _) rfl (by decide) (fun hG => Yd.lss rfl (.g rfl hG) .c) ?_
  refine W.q rfl rfl rfl rfl (by decide) (Yd.and rfl (.t rfl) .c rfl rfl) ?_
  refine W.q rfl rfl rfl rfl (by decide) (Yd.mv rfl (.t rfl)) ?_
  refine W.g rfl rfl rfl rfl rfl (.t rfl _) rfl (by decide) (fun hG => Yd.mv rfl (.t rfl)) ?_
  refine W.g rfl rfl rfl rfl rfl (.t rfl _) rfl (by decide) (fun hG => Yd.mv rfl (.t rfl)) ?_
  refine W.g rfl rfl rfl rfl rfl (.t rfl _) rfl (by decide) (fun hG => Yd.cvQ rfl US3 Try.underlying72 (.g rfl hG)) ?_
  refine W.g rfl rfl rfl rfl rfl (.t rfl _) rfl (by decide) (fun hG => Yd.shlU (a := 1#32) rfl .c (.g rfl hG) (Int.natCast_nonneg _)) ?_
  refine W.g rfl rfl rfl rfl rfl (.t rfl _) rfl (by decide) (fun hG => Yd.andU (a := w_0) (b := (1#32 <<< ((BitVec.ofInt 64 i_1)).toNat)) rfl (.g rfl hG) (.g rfl hG)) ?_
  refine W.g rfl rfl rfl rfl rfl (.t rfl _) rfl (by decide) (fun hG => Yd.neqU (a := (w_0 &&& (1#32 <<< ((BitVec.ofInt 64 i_1)).toNat))) (b := 0#32) rfl (.g rfl hG) .c) ?_
  refine W.q rfl rfl rfl rfl (by decide) (Yd.and rfl (.t rfl) .c rfl rfl) ?_
  refine W.q rfl rfl rfl rfl (by decide) (Yd.as rfl (.t rfl)) ?_
  refine W.end ?_
  refine NX.sub (env' := [(4, _)]) ⟨rfl, trivial⟩ ?_
  refine NX.then ?_
  refine Tr.ret' ?_
  refine res1 rfl rfl ?_
  intro w hc
  cases hr
  exact ⟨rfl, hc⟩

def syllogistref_Ints_k3 : Option (Bool) :=
  some true

def syllogistref_Ints_b7 (a_0 : List Int) (b_1 : List Int) (i_6 : Int) (nx8 : Unit → Option (Bool)) : Option (Bool) :=
  (geti a_0 i_6).bind fun y10 =>
  (geti b_1 i_6).bind fun y12 =>
  (bif (y10 != y12) then
  some false
  else
  nx8 ())

def syllogistref_Ints (a_0 : List Int) (b_1 : List Int) : Option (Bool) :=
  (bif ((a_0.length : Int) != (b_1.length : Int)) then
  some false
  else
  forK (σ := Unit) (fun i s nx_ => syllogistref_Ints_b7 a_0 b_1 i nx_) (fun _ => syllogistref_Ints_k3) ((a_0.length : Int) - (0 : Int)).toNat (0 : Int) ())

set_option maxRecDepth 100000 in
theorem syllogistref_Ints_ok (w0 : World) (m : Snap) (l : List HI) (ua_0 : Value) (a_0 : List Int) (ha_0 : RS rI m ua_0 a_0) (ub_1 : Value) (b_1 : List Int) (hb_1 : RS rI m ub_1 b_1) (r : Bool) (hr : syllogistref_Ints a_0 b_1 = some r) (w : World) (hc : cX w0 ⟨m, l⟩ w) :
    Calls Try.prog 35 [ua_0, ub_1].toArray w fun e w' => e = .returned (.bool r) ∧ cX w0 ⟨m, l⟩ w' := by
  unfold syllogistref_Ints at hr
  refine calls_of_Tr (N := 26) Try.func35 rfl hc rfl (Nat.le_of_ble_eq_true rfl) ?_
  refine Tr.seq ?_
  refine Tr.region_f (fun _ => false) ?_
  refine W.q rfl rfl rfl rfl (by decide) (Yd.as rfl .c) ?_
  refine W.end ?_
  refine NX.sub (env' := [(0, _), (1, _)]) ⟨rfl, rfl, trivial⟩ ?_
  refine NX.then ?_
  refine Tr.seq ?_
  refine Tr.seq ?_
  refine Tr.region_f (fun _ => false) ?_
  refine W.q rfl rfl rfl rfl (by decide) (Yd.mv rfl (.t rfl)) ?_
  refine W.q rfl rfl rfl rfl (by decide) (Yd.lenR ha_0 rfl Try.underlying28 (.t rfl)) ?_
  refine W.q rfl rfl rfl rfl (by decide) (Yd.mv rfl (.t rfl)) ?_
  refine W.q rfl rfl rfl rfl (by decide) (Yd.lenR hb_1 rfl Try.underlying28 (.t rfl)) ?_
  refine W.q rfl rfl rfl rfl (by decide) (Yd.neq rfl (.t rfl) (.t rfl)) ?_
  refine W.end ?_
  refine NX.sub (env' := [(0, _), (1, _), (10, _)]) ⟨rfl, rfl, rfl, trivial⟩ ?_
  refine NX.then ?_
  refine Tr.cond (.t rfl) (fun hb => ?_) (fun hb => ?_)
  · have hr := cond_t hb hr
    refine Tr.seq ?_
    refine Tr.region_f (fun _ => false) ?_
    refine W.q rfl rfl rfl rfl (by decide) (Yd.as rfl .c) ?_
    refine W.end ?_
    refine NX.sub (env' := [(4, _)]) ⟨rfl, trivial⟩ ?_
    refine NX.then ?_
    refine Tr.ret' (RT.then ?_)
    refine res1 rfl rfl ?_
    intro w hc
    cases hr
    exact ⟨rfl, hc⟩
  · have hr := cond_f hb hr
    refine Tr.skip' ?_
    refine NX.then ?_
    refine Tr.seq ?_
    refine Tr.seq ?_
    refine Tr.region_f (fun _ => false) ?_
    refine W.q rfl rfl rfl rfl (by decide) (Yd.as rfl .c) ?_
    refine W.end ?_
    refine NX.sub (env' := [(0, _), (1, _), (5, _)]) ⟨rfl, rfl, rfl, trivial⟩ ?_
    refine NX.then ?_
    refine Tr.join (S := fun env x => env = [] ∧ x = ⟨m, l⟩ ∧ syllogistref_Ints_k3 = some r) ?_ (fun hk4 => ?_)
    · rintro _ _ ⟨rfl, rfl, hr⟩
      unfold syllogistref_Ints_k3 at hr
      try dsimp only at hr
      refine NX.then ?_
      refine Tr.seq ?_
      refine Tr.region_f (fun _ => false) ?_
      refine W.q rfl rfl rfl rfl (by decide) (Yd.as rfl .c) ?_
      refine W.end ?_
      refine NX.sub (env' := [(4, _)]) ⟨rfl, trivial⟩ ?_
      refine NX.then ?_
      refine Tr.ret' ?_
      refine res1 rfl rfl ?_
      intro w hc
      cases hr
      exact ⟨rfl, hc⟩
    have hlen5 := (ha_0).2.1
    refine Tr.block ?_
    refine Tr.sub (env' := [(0, _), (1, _), (5, _)]) ⟨rfl, rfl, rfl, trivial⟩ ?_
    refine Tr.loop (S := fun n (z : Int × Unit) env x => match z with | (i_6, _) => env = [(0, ua_0), (1, ub_1), (5, .int .i64 i_6)] ∧ x = ⟨m, l⟩ ∧ n = ((a_0.length : Int) - i_6).toNat ∧ 0 ≤ i_6 ∧ forK (σ := Unit) (fun i s nx_ => syllogistref_Ints_b7 a_0 b_1 i nx_) (fun _ => syllogistref_Ints_k3) n i_6 () = some r) _ ((0 : Int), ()) ⟨rfl, rfl, rfl, (by omega), hr⟩ ?_
    rintro n9 ⟨i_6, _⟩ env x ⟨rfl, rfl, hni_6, h0i_6, hr⟩
    cases n9 with
    | zero =>
      simp only [forK] at hr
      refine Tr.seq ?_
      refine Tr.seq ?_
      refine Tr.region_f (fun _ => false) ?_
      refine W.q rfl rfl rfl rfl (by decide) (Yd.mv rfl (.t rfl)) ?_
      refine W.q rfl rfl rfl rfl (by decide) (Yd.mv rfl (.t rfl)) ?_
      refine W.q rfl rfl rfl rfl (by decide) (Yd.lenR ha_0 rfl Try.underlying28 (.t rfl)) ?_
      refine W.q rfl rfl rfl rfl (by decide) (Yd.lss rfl (.t rfl) (.t rfl)) ?_
      refine W.end ?_
      refine NX.sub (env' := [(0, _), (1, _), (5, _), (14, _)]) ⟨rfl, rfl, rfl, rfl, trivial⟩ ?_
      refine NX.then ?_
      refine Tr.cond (.t rfl) (fun hb => ?_) (fun hb => ?_)
      · exact absurd (hb.symm.trans (fr_end hni_6)) (by decide)
      ·
        refine Tr.exit' (EX.then (EX.then (EX.block ?_)))
        refine NX.sub (env' := []) trivial ?_
        exact hk4 _ _ ⟨rfl, rfl, hr⟩
    | succ n9 =>
      obtain ⟨nx8, hnx8, hr⟩ := forK_succ hr
      try dsimp only at hr
      unfold syllogistref_Ints_b7 at hr
      try dsimp only at hr
      have hlti_6 := fr_bnd hni_6
      refine Tr.seq ?_
      refine Tr.seq ?_
      refine Tr.region_f (fun _ => false) ?_
      refine W.q rfl rfl rfl rfl (by decide) (Yd.mv rfl (.t rfl)) ?_
      refine W.q rfl rfl rfl rfl (by decide) (Yd.mv rfl (.t rfl)) ?_
      refine W.q rfl rfl rfl rfl (by decide) (Yd.lenR ha_0 rfl Try.underlying28 (.t rfl)) ?_
      refine W.q rfl rfl rfl rfl (by decide) (Yd.lss rfl (.t rfl) (.t rfl)) ?_
      refine W.end ?_
      refine NX.sub (env' := [(0, _), (1, _), (5, _), (14, _)]) ⟨rfl, rfl, rfl, rfl, trivial⟩ ?_
      refine NX.then ?_
      refine Tr.cond (.t rfl) (fun hb => ?_) (fun hb => ?_)
      rotate_left
      · exact absurd (hb.symm.trans (fr_go hni_6)) (by decide)
      ·
        refine Tr.skip' ?_
        refine NX.then ?_
        refine Tr.seq ?_
        refine Tr.block ?_
        refine Tr.seq ?_
        obtain ⟨y10, hy11, hr⟩ := bind_some hr
        obtain ⟨y12, hy13, hr⟩ := bind_some hr
        refine Tr.region_x (fun _ => false) (fun _ => false) (Ord.of [0, 1, 2, 3, 4, 5, 6, 7, 8]) FM (by kernel_rfl) ?_
        refine W.q rfl rfl rfl rfl (by decide) (Yd.mv rfl (.t rfl)) ?_
        refine W.q rfl rfl rfl rfl (by decide) (Yd.mv rfl (.t rfl)) ?_
        refine W.q rfl rfl rfl rfl (by decide) (Yd.idxR ha_0 hy11 rfl Try.underlying28 SZ3 (.t rfl) (.t rfl)) ?_
        refine W.q rfl rfl rfl rfl (by decide) (Yd.ldF ha_0 (.refl _) hy11 rfl rfl ON3 (.t rfl)) ?_
        refine W.q rfl rfl rfl rfl (by decide) (Yd.mv rfl (.t rfl)) ?_
        refine W.q rfl rfl rfl rfl (by decide) (Yd.mv rfl (.t rfl)) ?_
        refine W.q rfl rfl rfl rfl (by decide) (Yd.idxR hb_1 hy13 rfl Try.underlying28 SZ3 (.t rfl) (.t rfl)) ?_
        refine W.q rfl rfl rfl rfl (by decide) (Yd.ldF hb_1 (.refl _) hy13 rfl rfl ON3 (.t rfl)) ?_
        refine W.q rfl rfl rfl rfl (by decide) (Yd.neq rfl (.t rfl) (.t rfl)) ?_
        refine W.end ?_
        refine NX.sub (env' := [(0, _), (1, _), (5, _), (25, _)]) ⟨rfl, rfl, rfl, rfl, trivial⟩ ?_
        refine NX.then ?_
        refine Tr.cond (.t rfl) (fun hb => ?_) (fun hb => ?_)
        · have hr := cond_t hb hr
          refine Tr.seq ?_
          refine Tr.region_f (fun _ => false) ?_
          refine W.q rfl rfl rfl rfl (by decide) (Yd.as rfl .c) ?_
          refine W.end ?_
          refine NX.sub (env' := [(4, _)]) ⟨rfl, trivial⟩ ?_
          refine NX.then ?_
          refine Tr.ret' (RT.block (RT.then (RT.then (RT.block (RT.then ?_)))))
          refine res1 rfl rfl ?_
          intro w hc
          cases hr
          exact ⟨rfl, hc⟩
        · have hr := cond_f hb hr
          refine Tr.skip' ?_
          refine NX.block ?_
          refine NX.then ?_
          refine Tr.region_f (fun _ => false) ?_
          refine W.q rfl rfl rfl rfl (by decide) (Yd.mv rfl (.t rfl)) ?_
          refine W.q rfl rfl rfl rfl (by decide) (Yd.add rfl (.t rfl) .c) ?_
          refine W.q rfl rfl rfl rfl (by decide) (Yd.as rfl (.t rfl)) ?_
          refine W.end ?_
          refine NX.sub (env' := [(0, _), (1, _), (5, _)]) ⟨rfl, rfl, rfl, trivial⟩ ?_
          refine NX.sub (env' := [(0, _), (1, _), (5, _)]) ⟨rfl, rfl, rfl, trivial⟩ ?_
          have hw := w64_id (n := i_6 + 1) (by omega) (by omega)
          exact NX.again n9 (i_6 + 1, ()) (Nat.lt_succ_self _) ⟨(by rw [hw] <;> rfl), rfl, (fr_dec hni_6), (by omega), ((hnx8 _).symm.trans hr)⟩

def syllogistref_Lists_k3 : Option (Bool) :=
  some true

def syllogistref_Lists_b7 (a_0 : List (List Int)) (b_1 : List (List Int)) (i_6 : Int) (nx8 : Unit → Option (Bool)) : Option (Bool) :=
  (geti a_0 i_6).bind fun y10 =>
  (geti b_1 i_6).bind fun y15 =>
  (syllogistref_Ints y10 y15).bind fun r20 =>
  (bif (!r20) then
  some false
  else
  nx8 ())

def syllogistref_Lists (a_0 : List (List Int)) (b_1 : List (List Int)) : Option (Bool) :=
  (bif ((a_0.length : Int) != (b_1.length : Int)) then
  some false
  else
  forK (σ := Unit) (fun i s nx_ => syllogistref_Lists_b7 a_0 b_1 i nx_) (fun _ => syllogistref_Lists_k3) ((a_0.length : Int) - (0 : Int)).toNat (0 : Int) ())

set_option maxRecDepth 100000 in
theorem syllogistref_Lists_ok (w0 : World) (m : Snap) (l : List HI) (ua_0 : Value) (a_0 : List (List Int)) (ha_0 : RS (Rp.slice rI) m ua_0 a_0) (ub_1 : Value) (b_1 : List (List Int)) (hb_1 : RS (Rp.slice rI) m ub_1 b_1) (r : Bool) (hr : syllogistref_Lists a_0 b_1 = some r) (w : World) (hc : cX w0 ⟨m, l⟩ w) :
    Calls Try.prog 18 [ua_0, ub_1].toArray w fun e w' => e = .returned (.bool r) ∧ cX w0 ⟨m, l⟩ w' := by
  unfold syllogistref_Lists at hr
  refine calls_of_Tr (N := 27) Try.func18 rfl hc rfl (Nat.le_of_ble_eq_true rfl) ?_
  refine Tr.seq ?_
  refine Tr.region_f (fun _ => false) ?_
  refine W.q rfl rfl rfl rfl (by decide) (Yd.as rfl .c) ?_
  refine W.end ?_
  refine NX.sub (env' := [(0, _), (1, _)]) ⟨rfl, rfl, trivial⟩ ?_
  refine NX.then ?_
  refine Tr.seq ?_
  refine Tr.seq ?_
  refine Tr.region_f (fun _ => false) ?_
  refine W.q rfl rfl rfl rfl (by decide) (Yd.mv rfl (.t rfl)) ?_
  refine W.q rfl rfl rfl rfl (by decide) (Yd.lenR ha_0 rfl Try.underlying22 (.t rfl)) ?_
  refine W.q rfl rfl rfl rfl (by decide) (Yd.mv rfl (.t rfl)) ?_
  refine W.q rfl rfl rfl rfl (by decide) (Yd.lenR hb_1 rfl Try.underlying22 (.t rfl)) ?_
  refine W.q rfl rfl rfl rfl (by decide) (Yd.neq rfl (.t rfl) (.t rfl)) ?_
  refine W.end ?_
  refine NX.sub (env' := [(0, _), (1, _), (10, _)]) ⟨rfl, rfl, rfl, trivial⟩ ?_
  refine NX.then ?_
  refine Tr.cond (.t rfl) (fun hb => ?_) (fun hb => ?_)
  · have hr := cond_t hb hr
    refine Tr.seq ?_
    refine Tr.region_f (fun _ => false) ?_
    refine W.q rfl rfl rfl rfl (by decide) (Yd.as rfl .c) ?_
    refine W.end ?_
    refine NX.sub (env' := [(4, _)]) ⟨rfl, trivial⟩ ?_
    refine NX.then ?_
    refine Tr.ret' (RT.then ?_)
    refine res1 rfl rfl ?_
    intro w hc
    cases hr
    exact ⟨rfl, hc⟩
  · have hr := cond_f hb hr
    refine Tr.skip' ?_
    refine NX.then ?_
    refine Tr.seq ?_
    refine Tr.seq ?_
    refine Tr.region_f (fun _ => false) ?_
    refine W.q rfl rfl rfl rfl (by decide) (Yd.as rfl .c) ?_
    refine W.end ?_
    refine NX.sub (env' := [(0, _), (1, _), (5, _)]) ⟨rfl, rfl, rfl, trivial⟩ ?_
    refine NX.then ?_
    refine Tr.join (S := fun env x => env = [] ∧ x = ⟨m, l⟩ ∧ syllogistref_Lists_k3 = some r) ?_ (fun hk4 => ?_)
    · rintro _ _ ⟨rfl, rfl, hr⟩
      unfold syllogistref_Lists_k3 at hr
      try dsimp only at hr
      refine NX.then ?_
      refine Tr.seq ?_
      refine Tr.region_f (fun _ => false) ?_
      refine W.q rfl rfl rfl rfl (by decide) (Yd.as rfl .c) ?_
      refine W.end ?_
      refine NX.sub (env' := [(4, _)]) ⟨rfl, trivial⟩ ?_
      refine NX.then ?_
      refine Tr.ret' ?_
      refine res1 rfl rfl ?_
      intro w hc
      cases hr
      exact ⟨rfl, hc⟩
    have hlen5 := (ha_0).2.1
    refine Tr.block ?_
    refine Tr.sub (env' := [(0, _), (1, _), (5, _)]) ⟨rfl, rfl, rfl, trivial⟩ ?_
    refine Tr.loop (S := fun n (z : Int × Unit) env x => match z with | (i_6, _) => env = [(0, ua_0), (1, ub_1), (5, .int .i64 i_6)] ∧ x = ⟨m, l⟩ ∧ n = ((a_0.length : Int) - i_6).toNat ∧ 0 ≤ i_6 ∧ forK (σ := Unit) (fun i s nx_ => syllogistref_Lists_b7 a_0 b_1 i nx_) (fun _ => syllogistref_Lists_k3) n i_6 () = some r) _ ((0 : Int), ()) ⟨rfl, rfl, rfl, (by omega), hr⟩ ?_
    rintro n9 ⟨i_6, _⟩ env x ⟨rfl, rfl, hni_6, h0i_6, hr⟩
    cases n9 with
    | zero =>
      simp only [forK] at hr
      refine Tr.seq ?_
      refine Tr.seq ?_
      refine Tr.region_f (fun _ => false) ?_
      refine W.q rfl rfl rfl rfl (by decide) (Yd.mv rfl (.t rfl)) ?_
      refine W.q rfl rfl rfl rfl (by decide) (Yd.mv rfl (.t rfl)) ?_
      refine W.q rfl rfl rfl rfl (by decide) (Yd.lenR ha_0 rfl Try.underlying22 (.t rfl)) ?_
      refine W.q rfl rfl rfl rfl (by decide) (Yd.lss rfl (.t rfl) (.t rfl)) ?_
      refine W.end ?_
      refine NX.sub (env' := [(0, _), (1, _), (5, _), (14, _)]) ⟨rfl, rfl, rfl, rfl, trivial⟩ ?_
      refine NX.then ?_
      refine Tr.cond (.t rfl) (fun hb => ?_) (fun hb => ?_)
      · exact absurd (hb.symm.trans (fr_end hni_6)) (by decide)
      ·
        refine Tr.exit' (EX.then (EX.then (EX.block ?_)))
        refine NX.sub (env' := []) trivial ?_
        exact hk4 _ _ ⟨rfl, rfl, hr⟩
    | succ n9 =>
      obtain ⟨nx8, hnx8, hr⟩ := forK_succ hr
      try dsimp only at hr
      unfold syllogistref_Lists_b7 at hr
      try dsimp only at hr
      have hlti_6 := fr_bnd hni_6
      refine Tr.seq ?_
      refine Tr.seq ?_
      refine Tr.region_f (fun _ => false) ?_
      refine W.q rfl rfl rfl rfl (by decide) (Yd.mv rfl (.t rfl)) ?_
      refine W.q rfl rfl rfl rfl (by decide) (Yd.mv rfl (.t rfl)) ?_
      refine W.q rfl rfl rfl rfl (by decide) (Yd.lenR ha_0 rfl Try.underlying22 (.t rfl)) ?_
      refine W.q rfl rfl rfl rfl (by decide) (Yd.lss rfl (.t rfl) (.t rfl)) ?_
      refine W.end ?_
      refine NX.sub (env' := [(0, _), (1, _), (5, _), (14, _)]) ⟨rfl, rfl, rfl, rfl, trivial⟩ ?_
      refine NX.then ?_
      refine Tr.cond (.t rfl) (fun hb => ?_) (fun hb => ?_)
      rotate_left
      · exact absurd (hb.symm.trans (fr_go hni_6)) (by decide)
      ·
        refine Tr.skip' ?_
        refine NX.then ?_
        refine Tr.seq ?_
        refine Tr.block ?_
        refine Tr.seq ?_
        obtain ⟨y10, hy11, hr⟩ := bind_some hr
        obtain ⟨u12, hu13, hat14⟩ := ha_0.row hy11
        obtain ⟨y15, hy16, hr⟩ := bind_some hr
        obtain ⟨u17, hu18, hat19⟩ := hb_1.row hy16
        obtain ⟨r20, hr21, hr⟩ := bind_some hr
        refine Tr.region_x (fun _ => false) (fun _ => false) (Ord.of [0, 1, 2, 3, 4, 5, 6, 7, 8, 9]) FM (by kernel_rfl) ?_
        refine W.q rfl rfl rfl rfl (by decide) (Yd.mv rfl (.t rfl)) ?_
        refine W.q rfl rfl rfl rfl (by decide) (Yd.mv rfl (.t rfl)) ?_
        refine W.q rfl rfl rfl rfl (by decide) (Yd.idxR ha_0 hy11 rfl Try.underlying22 SZ28 (.t rfl) (.t rfl)) ?_
        refine W.q rfl rfl rfl rfl (by decide) (Yd.ldRow hat14 (.refl _) rfl ON28 (.t rfl)) ?_
        refine W.q rfl rfl rfl rfl (by decide) (Yd.mv rfl (.t rfl)) ?_
        refine W.q rfl rfl rfl rfl (by decide) (Yd.mv rfl (.t rfl)) ?_
        refine W.q rfl rfl rfl rfl (by decide) (Yd.idxR hb_1 hy16 rfl Try.underlying22 SZ28 (.t rfl) (.t rfl)) ?_
        refine W.q rfl rfl rfl rfl (by decide) (Yd.ldRow hat19 (.refl _) rfl ON28 (.t rfl)) ?_
        refine W.q rfl rfl rfl rfl (by decide) (Yd.call (v := .bool r20) rfl Try.func35 rfl rfl (.cons (.t rfl) (.cons (.t rfl) .nil)) (fun x' hx w hw => syllogistref_Ints_ok w0 x'.m x'.l _ _ (hu13.mono hx.1) _ _ (hu18.mono hx.1) _ hr21 w hw)) ?_
        refine W.q rfl rfl rfl rfl (by decide) (Yd.not rfl (.t rfl)) ?_
        refine W.end ?_
        refine NX.sub (env' := [(0, _), (1, _), (5, _), (26, _)]) ⟨rfl, rfl, rfl, rfl, trivial⟩ ?_
        refine NX.then ?_
        refine Tr.cond (.t rfl) (fun hb => ?_) (fun hb => ?_)
        · have hr := cond_t hb hr
          refine Tr.seq ?_
          refine Tr.region_f (fun _ => false) ?_
          refine W.q rfl rfl rfl rfl (by decide) (Yd.as rfl .c) ?_
          refine W.end ?_
          refine NX.sub (env' := [(4, _)]) ⟨rfl, trivial⟩ ?_
          refine NX.then ?_
          refine Tr.ret' (RT.block (RT.then (RT.then (RT.block (RT.then ?_)))))
          refine res1 rfl rfl ?_
          intro w hc
          cases hr
          exact ⟨rfl, hc⟩
        · have hr := cond_f hb hr
          refine Tr.skip' ?_
          refine NX.block ?_
          refine NX.then ?_
          refine Tr.region_f (fun _ => false) ?_
          refine W.q rfl rfl rfl rfl (by decide) (Yd.mv rfl (.t rfl)) ?_
          refine W.q rfl rfl rfl rfl (by decide) (Yd.add rfl (.t rfl) .c) ?_
          refine W.q rfl rfl rfl rfl (by decide) (Yd.as rfl (.t rfl)) ?_
          refine W.end ?_
          refine NX.sub (env' := [(0, _), (1, _), (5, _)]) ⟨rfl, rfl, rfl, trivial⟩ ?_
          refine NX.sub (env' := [(0, _), (1, _), (5, _)]) ⟨rfl, rfl, rfl, trivial⟩ ?_
          have hw := w64_id (n := i_6 + 1) (by omega) (by omega)
          exact NX.again n9 (i_6 + 1, ()) (Nat.lt_succ_self _) ⟨(by rw [hw] <;> rfl), rfl, (fr_dec hni_6), (by omega), ((hnx8 _).symm.trans hr)⟩

def syllogistlaw_KnowHears_k26 (r1 : (List (List Int)) × Int) (l21 : List (List Int)) : Option (Bool) :=
  bif (!((r1.2 == (0 : Int)) == true) || (syllogistref_Lists r1.1 l21).isSome) then
  some (((r1.2 == (0 : Int)) && (((syllogistref_Lists r1.1 l21).getD false)))) else none

def syllogistlaw_KnowHears_k48 (l16 : List (List Int)) (nx32 : ((List (List Int)) → Option (Bool))) (l46 : List Int) : Option (Bool) :=
  bif decide (l16.length + 1 ≤ 5864062014805) then
  nx32 (l16 ++ [l46]) else none

def syllogistlaw_KnowHears_k64 (l44 : List Int) (nx59 : ((List Int) → Option (Bool))) (v_63 : Int) : Option (Bool) :=
  bif decide (l44.length + (([v_63] : List Int)).length ≤ 17592186044416) then
  nx59 (l44 ++ ([v_63] : List Int)) else none

def syllogistlaw_KnowHears_b70 (event_2 : (BitVec 32)) (y34 : (List Int)) (w_57 : Int) (l44 : List Int) (nx59 : ((List Int) → Option (Bool))) (v_62 : Int) (nx71 : Int → Option (Bool)) : Option (Bool) :=
  (geti y34 v_62).bind fun y73 =>
  (geti y34 w_57).bind fun y75 =>
  bif (!((y73 != y75) == false) || (syllogistref_Bit event_2 v_62).isSome) then
  bif (!((y73 != y75) == false) || (syllogistref_Bit event_2 w_57).isSome) then
  (bif ((y73 != y75) || ((((syllogistref_Bit event_2 v_62).getD false)) != (((syllogistref_Bit event_2 w_57).getD false)))) then
  nx71 (w64 (v_62 + (1 : Int)))
  else
  syllogistlaw_KnowHears_k64 l44 nx59 v_62) else none else none

def syllogistlaw_KnowHears_b58 (event_2 : (BitVec 32)) (fuel : Nat) (y34 : (List Int)) (w_57 : Int) (l44 : List Int) (nx59 : (List Int) → Option (Bool)) : Option (Bool) :=
  whileK (σ := Int) (fun s nx_ => syllogistlaw_KnowHears_b70 event_2 y34 w_57 l44 nx59 s nx_) fuel ((0 : Int))

def syllogistlaw_KnowHears_b31 (n_0 : Int) (cells_1 : List (List Int)) (event_2 : (BitVec 32)) (fuel : Nat) (t_30 : Int) (l16 : List (List Int)) (nx32 : (List (List Int)) → Option (Bool)) : Option (Bool) :=
  (geti cells_1 t_30).bind fun y34 =>
  bif decide (n_0 ≤ 9223372036854775807) then
  forK (σ := (List Int)) (fun i s nx_ => syllogistlaw_KnowHears_b58 event_2 fuel y34 i s nx_) (fun s => syllogistlaw_KnowHears_k48 l16 nx32 s) (n_0 - (0 : Int)).toNat (0 : Int) (([] : List Int)) else none

def syllogistlaw_KnowHears (fuel : Nat) (n_0 : Int) (cells_1 : List (List Int)) (event_2 : (BitVec 32)) : Option (Bool) :=
  (know_Hear fuel n_0 cells_1 event_2).bind fun r1 =>
  (syllogistref_KnowCheck n_0 cells_1 event_2).bind fun r6 =>
  (bif (r6 != (0 : Int)) then
  some (((r1.2 == r6) && ((r1.1.length : Int) == (0 : Int))))
  else
  forK (σ := (List (List Int))) (fun i s nx_ => syllogistlaw_KnowHears_b31 n_0 cells_1 event_2 fuel i s nx_) (fun s => syllogistlaw_KnowHears_k26 r1 s) ((cells_1.length : Int) - (0 : Int)).toNat (0 : Int) (([] : List (List Int))))

set_option maxRecDepth 100000 in
theorem syllogistlaw_KnowHears_ok (w0 : World) (m : Snap) (l : List HI) (fuel : Nat) (n_0 : Int) (ucells_1 : Value) (cells_1 : List (List Int)) (hcells_1 : RS (Rp.slice rI) m ucells_1 cells_1) (event_2 : (BitVec 32)) (r : Bool) (hr : syllogistlaw_KnowHears fuel n_0 cells_1 event_2 = some r) (w : World) (hc : cX w0 ⟨m, l⟩ w) :
    Calls Try.prog 3 [.int .i64 n_0, ucells_1, .int .u32 (event_2.toNat : Int)].toArray w fun e w' => e = .returned (.bool r) ∧ cX w0 ⟨m, l⟩ w' := by
  unfold syllogistlaw_KnowHears at hr
  refine calls_of_Tr (N := 84) Try.func3 rfl hc rfl (Nat.le_of_ble_eq_true rfl) ?_
  refine Tr.seq ?_
  refine Tr.region_f (fun _ => false) ?_
  refine W.q rfl rfl rfl rfl (by decide) (Yd.as rfl .c) ?_
  refine W.end ?_
  refine NX.sub (env' := [(0, _), (1, _), (2, _)]) ⟨rfl, rfl, rfl, trivial⟩ ?_
  refine NX.then ?_
  refine Tr.seq ?_
  obtain ⟨r1, hr2, hr⟩ := bind_some hr
  refine Tr.region_f (fun i => Nat.beq i 3) ?_
  refine W.q rfl rfl rfl rfl (by decide) (Yd.mv rfl (.t rfl)) ?_
  refine W.q rfl rfl rfl rfl (by decide) (Yd.mv rfl (.t rfl)) ?_
  refine W.q rfl rfl rfl rfl (by decide) (Yd.mv rfl (.t rfl)) ?_
  refine W.e rfl rfl rfl rfl (by decide) (Ef.call (R := fun z x' => ∃ u3 : Value, ∃ m4 : Snap, z = .tuple #[u3, .int .i64 r1.2] ∧ x' = ⟨m4, l⟩ ∧ Sle m m4 ∧ RS (Rp.slice rI) m4 u3 r1.1) rfl Try.func15 rfl rfl (.cons (.t rfl) (.cons (.t rfl) (.cons (.t rfl) .nil))) (fun w hw => (know_Hear_ok w0 _ _ fuel n_0 _ _ hcells_1 event_2 _ hr2 w hw).mono fun e w' ⟨u3, m4, he, hm', hu5, hc'⟩ => ⟨_, _, he, ⟨u3, m4, rfl, rfl, hm', hu5⟩, hc'⟩)) ?_
  rintro _ _ ⟨u3, m4, rfl, rfl, hsm4, hu5⟩
  have hcells_1 := hcells_1.mono hsm4
  refine ⟨.inl rfl, ?_⟩
  refine W.cast (m' := m4) (l' := l) rfl rfl ?_
  refine W.q rfl rfl rfl rfl (by decide) (Yd.mv rfl (.t rfl)) ?_
  refine W.q rfl rfl rfl rfl (by decide) (Yd.ext rfl (.t rfl) rfl) ?_
  refine W.q rfl rfl rfl rfl (by decide) (Yd.ext rfl (.t rfl) rfl) ?_
  refine W.q rfl rfl rfl rfl (by decide) (Yd.as rfl (.t rfl)) ?_
  refine W.q rfl rfl rfl rfl (by decide) (Yd.as rfl (.t rfl)) ?_
  refine W.end ?_
  refine NX.sub (env' := [(0, _), (1, _), (2, _), (7, _), (8, _)]) ⟨rfl, rfl, rfl, rfl, rfl, trivial⟩ ?_
  refine NX.then ?_
  refine Tr.seq ?_
  obtain ⟨r6, hr7, hr⟩ := bind_some hr
  refine Tr.region_f (fun _ => false) ?_
  refine W.q rfl rfl rfl rfl (by decide) (Yd.mv rfl (.t rfl)) ?_
  refine W.q rfl rfl rfl rfl (by decide) (Yd.mv rfl (.t rfl)) ?_
  refine W.q rfl rfl rfl rfl (by decide) (Yd.mv rfl (.t rfl)) ?_
  refine W.q rfl rfl rfl rfl (by decide) (Yd.call (v := .int .i64 r6) rfl Try.func16 rfl rfl (.cons (.t rfl) (.cons (.t rfl) (.cons (.t rfl) .nil))) (fun x' hx w hw => syllogistref_KnowCheck_ok w0 x'.m x'.l n_0 _ _ (hcells_1.mono hx.1) event_2 _ hr7 w hw)) ?_
  refine W.q rfl rfl rfl rfl (by decide) (Yd.as rfl (.t rfl)) ?_
  refine W.end ?_
  refine NX.sub (env' := [(0, _), (1, _), (2, _), (7, _), (8, _), (9, _)]) ⟨rfl, rfl, rfl, rfl, rfl, rfl, trivial⟩ ?_
  refine NX.then ?_
  refine Tr.seq ?_
  refine Tr.seq ?_
  refine Tr.region_f (fun _ => false) ?_
  refine W.q rfl rfl rfl rfl (by decide) (Yd.mv rfl (.t rfl)) ?_
  refine W.q rfl rfl rfl rfl (by decide) (Yd.neq rfl (.t rfl) .c) ?_
  refine W.end ?_
  refine NX.sub (env' := [(0, _), (1, _), (2, _), (7, _), (8, _), (9, _), (28, _)]) ⟨rfl, rfl, rfl, rfl, rfl, rfl, rfl, trivial⟩ ?_
  refine NX.then ?_
  refine Tr.cond (.t rfl) (fun hb => ?_) (fun hb => ?_)
  · have hr := cond_t hb hr
    refine Tr.seq ?_
    refine Tr.region_f (fun _ => false) ?_
    refine W.q rfl rfl rfl rfl (by decide) (Yd.mv rfl (.t rfl)) ?_
    refine W.q rfl rfl rfl rfl (by decide) (Yd.mv rfl (.t rfl)) ?_
    refine W.q rfl rfl rfl rfl (by decide) (Yd.eql rfl (.t rfl) (.t rfl)) ?_
    refine W.q rfl rfl rfl rfl (by decide) (Yd.mv rfl (.t rfl)) ?_
    refine W.g rfl rfl rfl rfl rfl (.t rfl _) rfl (by decide) (fun hG => Yd.mv rfl (.t rfl)) ?_
    refine W.g rfl rfl rfl rfl rfl (.t rfl _) rfl (by decide) (fun hG => Yd.lenR hu5 rfl Try.underlying22 (.g rfl hG)) ?_
    refine W.g rfl rfl rfl rfl rfl (.t rfl _) rfl (by decide) (fun hG => Yd.eql rfl (.g rfl hG) .c) ?_
    refine W.q rfl rfl rfl rfl (by decide) (Yd.and rfl (.t rfl) .c rfl rfl) ?_
    refine W.q rfl rfl rfl rfl (by decide) (Yd.as rfl (.t rfl)) ?_
    refine W.end ?_
    refine NX.sub (env' := [(6, _)]) ⟨rfl, trivial⟩ ?_
    refine NX.then ?_
    refine Tr.ret' (RT.then ?_)
    refine res1 rfl rfl ?_
    intro w hc
    cases hr
    exact ⟨rfl, (cX_le (x := ⟨m, _⟩) ⟨hsm4, [], rfl⟩ hc)⟩
  · have hr := cond_f hb hr
    refine Tr.skip' ?_
    refine NX.then ?_
    refine Tr.seq ?_
    refine Tr.region_f (fun _ => false) ?_
    refine W.q rfl rfl rfl rfl (by decide) (Yd.as rfl .c) ?_
    refine W.end ?_
    refine NX.sub (env' := [(0, _), (1, _), (2, _), (7, _), (8, _), (10, _)]) ⟨rfl, rfl, rfl, rfl, rfl, rfl, trivial⟩ ?_
    refine NX.then ?_
    refine Tr.seq ?_
    refine Tr.seq ?_
    refine Tr.region_f (fun _ => false) ?_
    refine W.q rfl rfl rfl rfl (by decide) (Yd.mv rfl (.t rfl)) ?_
    refine W.q rfl rfl rfl rfl (by decide) (Yd.lenR hcells_1 rfl Try.underlying22 (.t rfl)) ?_
    refine W.q rfl rfl rfl rfl (by decide) (Yd.mv rfl .c) ?_
    refine W.end ?_
    refine NX.sub (env' := [(0, _), (2, _), (7, _), (8, _), (10, _), (37, _), (38, _), (39, _)]) ⟨rfl, rfl, rfl, rfl, rfl, rfl, rfl, rfl, trivial⟩ ?_
    refine NX.then ?_
    refine Tr.addnil 28 1 ?_
    refine Tr.join (S := fun env x => ∃ l21 : List (List Int), ∃ m25 : Snap, ∃ v22 : Value, ∃ us23 : List Value, Sle m4 m25 ∧ Rows rI m25 us23 l21 ∧ env = [(7, u3), (8, .int .i64 r1.2), (10, v22)] ∧ x = ⟨m25, hown 28 1 v22 l21.length us23 :: l⟩ ∧ syllogistlaw_KnowHears_k26 r1 l21 = some r) ?_ (fun hk27 => ?_)
    · rintro _ _ ⟨l21, m25, v22, us23, hsm25, hw24, rfl, rfl, hr⟩
      unfold syllogistlaw_KnowHears_k26 at hr
      try dsimp only at hr
      have hcells_1 := hcells_1.mono hsm25
      have hu5 := hu5.mono hsm25
      refine NX.then ?_
      refine Tr.seq ?_
      obtain ⟨ha28, hr⟩ := guard_some hr
      refine Tr.region_f (fun _ => false) ?_
      refine W.q rfl rfl rfl rfl (by decide) (Yd.mv rfl (.t rfl)) ?_
      refine W.q rfl rfl rfl rfl (by decide) (Yd.eql rfl (.t rfl) .c) ?_
      refine W.q rfl rfl rfl rfl (by decide) (Yd.mv rfl (.t rfl)) ?_
      refine W.g rfl rfl rfl rfl rfl (.t rfl _) rfl (by decide) (fun hG => Yd.mv rfl (.t rfl)) ?_
      refine W.g rfl rfl rfl rfl rfl (.t rfl _) rfl (by decide) (fun hG => Yd.mv rfl (.t rfl)) ?_
      refine W.g rfl rfl rfl rfl rfl (.t rfl _) rfl (by decide) (fun hG => Yd.call (v := .bool ((((syllogistref_Lists r1.1 l21).getD false)))) rfl Try.func18 rfl rfl (.cons (.g rfl hG) (.cons (.g rfl hG) .nil)) (by intro x' hx w hw; obtain ⟨p0, hp0⟩ := hx.at (p := 0) rfl; obtain ⟨m2, hm2, hc2, ⟨L2, hl1, hl2⟩, hback⟩ := cX_lend hw hp0 lone_own; have hL1 := RS_of_rows hl1 (hw24.mono (hx.1.trans hm2)) hl2; exact (syllogistref_Lists_ok w0 m2 _ _ _ (hu5.mono (hx.1.trans hm2)) _ _ hL1 _ (gd_get (d := false) ha28 hG) w hc2).mono fun e w' ⟨he, hc'⟩ => ⟨he, (hback m2 _ _ w' (.refl _) hp0).2 hc'⟩)) ?_
      refine W.q rfl rfl rfl rfl (by decide) (Yd.and rfl (.t rfl) .c rfl rfl) ?_
      refine W.q rfl rfl rfl rfl (by decide) (Yd.as rfl (.t rfl)) ?_
      refine W.end ?_
      refine NX.sub (env' := [(6, _)]) ⟨rfl, trivial⟩ ?_
      refine NX.drop (l' := l) (.cons _ (.refl _)) ?_
      refine NX.then ?_
      refine Tr.ret' ?_
      refine res1 rfl rfl ?_
      intro w hc
      cases hr
      exact ⟨rfl, (cX_le (x := ⟨m, _⟩) ⟨(hsm4.trans hsm25), [], rfl⟩ hc)⟩
    have hlen29 := (hcells_1).2.1
    refine Tr.block ?_
    refine Tr.sub (env' := [(0, _), (2, _), (7, _), (8, _), (10, _), (37, _), (38, _), (39, _)]) ⟨rfl, rfl, rfl, rfl, rfl, rfl, rfl, rfl, trivial⟩ ?_
    refine Tr.loop (S := fun n (z : Int × (List (List Int))) env x => match z with | (t_30, l16) => ∃ m20 : Snap, ∃ v17 : Value, ∃ us18 : List Value, Sle m4 m20 ∧ Rows rI m20 us18 l16 ∧ env = [(0, .int .i64 n_0), (2, .int .u32 (event_2.toNat : Int)), (7, u3), (8, .int .i64 r1.2), (10, v17), (37, ucells_1), (38, .int .i64 ((cells_1.length : Int))), (39, .int .i64 t_30)] ∧ x = ⟨m20, hown 28 1 v17 l16.length us18 :: l⟩ ∧ n = ((cells_1.length : Int) - t_30).toNat ∧ 0 ≤ t_30 ∧ forK (σ := (List (List Int))) (fun i s nx_ => syllogistlaw_KnowHears_b31 n_0 cells_1 event_2 fuel i s nx_) (fun s => syllogistlaw_KnowHears_k26 r1 s) n t_30 l16 = some r) _ ((0 : Int), ([] : List (List Int))) ⟨_, _, _, (.refl _), (Rows.nil _ _), rfl, rfl, rfl, (by omega), hr⟩ ?_
    rintro n33 ⟨t_30, l16⟩ env x ⟨m20, v17, us18, hsm20, hw19, rfl, rfl, hnt_30, h0t_30, hr⟩
    have hcells_1 := hcells_1.mono hsm20
    have hu5 := hu5.mono hsm20
    cases n33 with
    | zero =>
      simp only [forK] at hr
      refine Tr.seq ?_
      refine Tr.region_f (fun _ => false) ?_
      refine W.q rfl rfl rfl rfl (by decide) (Yd.lss rfl (.t rfl) (.t rfl)) ?_
      refine W.end ?_
      refine NX.sub (env' := [(0, _), (2, _), (7, _), (8, _), (10, _), (37, _), (38, _), (39, _), (40, _)]) ⟨rfl, rfl, rfl, rfl, rfl, rfl, rfl, rfl, rfl, trivial⟩ ?_
      refine NX.then ?_
      refine Tr.seq ?_
      refine Tr.cond (.t rfl) (fun hb => ?_) (fun hb => ?_)
      · exact absurd (hb.symm.trans (fr_end hnt_30)) (by decide)
      ·
        refine Tr.exit' (EX.then (EX.then (EX.block ?_)))
        refine NX.sub (env' := [(7, _), (8, _), (10, _)]) ⟨rfl, rfl, rfl, trivial⟩ ?_
        exact hk27 _ _ ⟨_, _, _, _, hsm20, hw19, rfl, rfl, hr⟩
    | succ n33 =>
      obtain ⟨nx32, hnx32, hr⟩ := forK_succ hr
      try dsimp only at hr
      unfold syllogistlaw_KnowHears_b31 at hr
      try dsimp only at hr
      have hltt_30 := fr_bnd hnt_30
      refine Tr.seq ?_
      refine Tr.region_f (fun _ => false) ?_
      refine W.q rfl rfl rfl rfl (by decide) (Yd.lss rfl (.t rfl) (.t rfl)) ?_
      refine W.end ?_
      refine NX.sub (env' := [(0, _), (2, _), (7, _), (8, _), (10, _), (37, _), (38, _), (39, _), (40, _)]) ⟨rfl, rfl, rfl, rfl, rfl, rfl, rfl, rfl, rfl, trivial⟩ ?_
      refine NX.then ?_
      refine Tr.seq ?_
      refine Tr.cond (.t rfl) (fun hb => ?_) (fun hb => ?_)
      rotate_left
      · exact absurd (hb.symm.trans (fr_go hnt_30)) (by decide)
      ·
        refine Tr.skip' ?_
        refine NX.then ?_
        refine Tr.seq ?_
        refine Tr.block ?_
        refine Tr.seq ?_
        obtain ⟨y34, hy35, hr⟩ := bind_some hr
        obtain ⟨u36, hu37, hat38⟩ := hcells_1.row hy35
        refine Tr.region_f (fun _ => false) ?_
        refine W.q rfl rfl rfl rfl (by decide) (Yd.idxR hcells_1 hy35 rfl Try.underlying22 SZ28 (.t rfl) (.t rfl)) ?_
        refine W.q rfl rfl rfl rfl (by decide) (Yd.ldRow hat38 (.refl _) rfl ON28 (.t rfl)) ?_
        refine W.q rfl rfl rfl rfl (by decide) (Yd.as rfl (.t rfl)) ?_
        refine W.end ?_
        refine NX.sub (env' := [(0, _), (2, _), (7, _), (8, _), (10, _), (37, _), (38, _), (39, _), (12, _)]) ⟨rfl, rfl, rfl, rfl, rfl, rfl, rfl, rfl, rfl, trivial⟩ ?_
        refine NX.then ?_
        refine Tr.seq ?_
        refine Tr.region_f (fun _ => false) ?_
        refine W.q rfl rfl rfl rfl (by decide) (Yd.as rfl .c) ?_
        refine W.end ?_
        refine NX.sub (env' := [(0, _), (2, _), (7, _), (8, _), (10, _), (37, _), (38, _), (39, _), (12, _), (13, _)]) ⟨rfl, rfl, rfl, rfl, rfl, rfl, rfl, rfl, rfl, rfl, trivial⟩ ?_
        refine NX.then ?_
        refine Tr.seq ?_
        refine Tr.seq ?_
        refine Tr.region_f (fun _ => false) ?_
        refine W.q rfl rfl rfl rfl (by decide) (Yd.as rfl .c) ?_
        refine W.end ?_
        refine NX.sub (env' := [(0, _), (2, _), (7, _), (8, _), (10, _), (37, _), (38, _), (39, _), (12, _), (13, _), (14, _)]) ⟨rfl, rfl, rfl, rfl, rfl, rfl, rfl, rfl, rfl, rfl, rfl, trivial⟩ ?_
        refine NX.then ?_
        refine Tr.addnil 3 1 ?_
        refine Tr.join (S := fun env x => ∃ l46 : List Int, ∃ v47 : Value, env = [(0, .int .i64 n_0), (2, .int .u32 (event_2.toNat : Int)), (7, u3), (8, .int .i64 r1.2), (10, v17), (37, ucells_1), (38, .int .i64 ((cells_1.length : Int))), (39, .int .i64 t_30), (13, v47)] ∧ x = ⟨m20, hownT 3 1 encI v47 l46 :: hown 28 1 v17 l16.length us18 :: l⟩ ∧ syllogistlaw_KnowHears_k48 l16 nx32 l46 = some r) ?_ (fun hk49 => ?_)
        · rintro _ _ ⟨l46, v47, rfl, rfl, hr⟩
          unfold syllogistlaw_KnowHears_k48 at hr
          try dsimp only at hr
          refine NX.then ?_
          refine Tr.freezeT (enc := encI) (n := 1) (pos := 0) (fun _ => rfl) rfl (fun m50 hsm50 hu51 => ?_)
          have hcells_1 := hcells_1.mono hsm50
          have hu5 := hu5.mono hsm50
          have hw19 := hw19.mono hsm50
          have hu37 := hu37.mono hsm50
          refine Tr.cast (m' := m50) (l' := hown 28 1 v17 _ _ :: l) rfl rfl ?_
          obtain ⟨hq55, hr⟩ := guard_some hr; replace hq55 := of_decide_eq_true hq55
          refine Tr.region_f (fun i => Nat.beq i 2 || Nat.beq i 3) ?_
          refine W.q rfl rfl rfl rfl (by decide) (Yd.mv rfl (.t rfl)) ?_
          refine W.q rfl rfl rfl rfl (by decide) (Yd.mv rfl (.t rfl)) ?_
          refine W.e rfl rfl rfl rfl (by decide) (Ef.bsR hu51 IF28 rfl Try.underlying22 (.cons (.t rfl) .nil)) ?_
          rintro v52 _ rfl
          refine ⟨.inl rfl, ?_⟩
          refine W.cast (m' := m50) (l' := hown 28 1 v52 _ _ :: hown 28 1 v17 _ _ :: l) rfl rfl ?_
          refine W.e rfl rfl rfl rfl (by decide) (Ef.apR (pos := 1) (pos2 := 0) IF28 rfl hu51 rfl rfl Try.underlying22 rfl (.t rfl) (.t rfl) (by omega) (by omega)) ?_
          rintro v54 _ rfl
          refine ⟨.inl rfl, ?_⟩
          refine W.cast (m' := m50) (l' := hown 28 1 v52 _ _ :: hown 28 1 v54 _ _ :: l) rfl rfl ?_
          refine W.q rfl rfl rfl rfl (by decide) (Yd.as rfl (.t rfl)) ?_
          refine W.end ?_
          refine NX.sub (env' := [(0, _), (2, _), (7, _), (8, _), (10, _), (37, _), (38, _), (39, _)]) ⟨rfl, rfl, rfl, rfl, rfl, rfl, rfl, rfl, trivial⟩ ?_
          refine NX.drop (l' := hown 28 1 v54 _ _ :: l) (.cons _ (.cons_cons _ (.refl _))) ?_
          refine NX.block ?_
          refine NX.then ?_
          refine Tr.region_f (fun _ => false) ?_
          refine W.q rfl rfl rfl rfl (by decide) (Yd.add rfl (.t rfl) .c) ?_
          refine W.q rfl rfl rfl rfl (by decide) (Yd.mv rfl (.t rfl)) ?_
          refine W.end ?_
          refine NX.sub (env' := [(0, _), (2, _), (7, _), (8, _), (10, _), (37, _), (38, _), (39, _)]) ⟨rfl, rfl, rfl, rfl, rfl, rfl, rfl, rfl, trivial⟩ ?_
          refine NX.sub (env' := [(0, _), (2, _), (7, _), (8, _), (10, _), (37, _), (38, _), (39, _)]) ⟨rfl, rfl, rfl, rfl, rfl, rfl, rfl, rfl, trivial⟩ ?_
          have hw := w64_id (n := t_30 + 1) (by omega) (by omega)
          exact NX.again n33 (t_30 + 1, (l16 ++ [l46])) (Nat.lt_succ_self _) ⟨_, _, _, (hsm20.trans hsm50), (Rows.snoc hw19 hu51), (by rw [hw] <;> rfl), rfl, (fr_dec hnt_30), (by omega), ((hnx32 _).symm.trans hr)⟩
        obtain ⟨hle56, hr⟩ := guard_some hr; replace hle56 := of_decide_eq_true hle56
        refine Tr.block ?_
        refine Tr.sub (env' := [(0, _), (2, _), (7, _), (8, _), (10, _), (12, _), (13, _), (14, _), (37, _), (38, _), (39, _)]) ⟨rfl, rfl, rfl, rfl, rfl, rfl, rfl, rfl, rfl, rfl, rfl, trivial⟩ ?_
        refine Tr.loop (S := fun n (z : Int × (List Int)) env x => match z with | (w_57, l44) => ∃ v45 : Value, env = [(0, .int .i64 n_0), (2, .int .u32 (event_2.toNat : Int)), (7, u3), (8, .int .i64 r1.2), (10, v17), (12, u36), (13, v45), (14, .int .i64 w_57), (37, ucells_1), (38, .int .i64 ((cells_1.length : Int))), (39, .int .i64 t_30)] ∧ x = ⟨m20, hownT 3 1 encI v45 l44 :: hown 28 1 v17 l16.length us18 :: l⟩ ∧ n = (n_0 - w_57).toNat ∧ 0 ≤ w_57 ∧ forK (σ := (List Int)) (fun i s nx_ => syllogistlaw_KnowHears_b58 event_2 fuel y34 i s nx_) (fun s => syllogistlaw_KnowHears_k48 l16 nx32 s) n w_57 l44 = some r) _ ((0 : Int), ([] : List Int)) ⟨_, rfl, rfl, rfl, (by omega), hr⟩ ?_
        rintro n60 ⟨w_57, l44⟩ env x ⟨v45, rfl, rfl, hnw_57, h0w_57, hr⟩
        cases n60 with
        | zero =>
          simp only [forK] at hr
          refine Tr.seq ?_
          refine Tr.seq ?_
          refine Tr.region_f (fun _ => false) ?_
          refine W.q rfl rfl rfl rfl (by decide) (Yd.mv rfl (.t rfl)) ?_
          refine W.q rfl rfl rfl rfl (by decide) (Yd.mv rfl (.t rfl)) ?_
          refine W.q rfl rfl rfl rfl (by decide) (Yd.lss rfl (.t rfl) (.t rfl)) ?_
          refine W.end ?_
          refine NX.sub (env' := [(0, _), (2, _), (7, _), (8, _), (10, _), (12, _), (13, _), (14, _), (37, _), (38, _), (39, _), (45, _)]) ⟨rfl, rfl, rfl, rfl, rfl, rfl, rfl, rfl, rfl, rfl, rfl, rfl, trivial⟩ ?_
          refine NX.then ?_
          refine Tr.cond (.t rfl) (fun hb => ?_) (fun hb => ?_)
          · exact absurd (hb.symm.trans (fr_end hnw_57)) (by decide)
          ·
            refine Tr.exit' (EX.then (EX.then (EX.block ?_)))
            refine NX.sub (env' := [(0, _), (2, _), (7, _), (8, _), (10, _), (37, _), (38, _), (39, _), (13, _)]) ⟨rfl, rfl, rfl, rfl, rfl, rfl, rfl, rfl, rfl, trivial⟩ ?_
            exact hk49 _ _ ⟨_, _, rfl, rfl, hr⟩
        | succ n60 =>
          obtain ⟨nx59, hnx59, hr⟩ := forK_succ hr
          try dsimp only at hr
          unfold syllogistlaw_KnowHears_b58 at hr
          try dsimp only at hr
          have hltw_57 := fr_bnd hnw_57
          refine Tr.seq ?_
          refine Tr.seq ?_
          refine Tr.region_f (fun _ => false) ?_
          refine W.q rfl rfl rfl rfl (by decide) (Yd.mv rfl (.t rfl)) ?_
          refine W.q rfl rfl rfl rfl (by decide) (Yd.mv rfl (.t rfl)) ?_
          refine W.q rfl rfl rfl rfl (by decide) (Yd.lss rfl (.t rfl) (.t rfl)) ?_
          refine W.end ?_
          refine NX.sub (env' := [(0, _), (2, _), (7, _), (8, _), (10, _), (12, _), (13, _), (14, _), (37, _), (38, _), (39, _), (45, _)]) ⟨rfl, rfl, rfl, rfl, rfl, rfl, rfl, rfl, rfl, rfl, rfl, rfl, trivial⟩ ?_
          refine NX.then ?_
          refine Tr.cond (.t rfl) (fun hb => ?_) (fun hb => ?_)
          rotate_left
          · exact absurd (hb.symm.trans (fr_go hnw_57)) (by decide)
          ·
            refine Tr.skip' ?_
            refine NX.then ?_
            refine Tr.seq ?_
            refine Tr.block ?_
            refine Tr.seq ?_
            refine Tr.region_f (fun _ => false) ?_
            refine W.q rfl rfl rfl rfl (by decide) (Yd.as rfl .c) ?_
            refine W.end ?_
            refine NX.sub (env' := [(0, _), (2, _), (7, _), (8, _), (10, _), (12, _), (13, _), (14, _), (37, _), (38, _), (39, _), (15, _)]) ⟨rfl, rfl, rfl, rfl, rfl, rfl, rfl, rfl, rfl, rfl, rfl, rfl, trivial⟩ ?_
            refine NX.then ?_
            refine Tr.seq ?_
            refine Tr.join (S := fun env x => ∃ v_63 : Int, env = [(0, .int .i64 n_0), (2, .int .u32 (event_2.toNat : Int)), (7, u3), (8, .int .i64 r1.2), (10, v17), (12, u36), (13, v45), (14, .int .i64 w_57), (37, ucells_1), (38, .int .i64 ((cells_1.length : Int))), (39, .int .i64 t_30), (15, .int .i64 v_63)] ∧ x = ⟨m20, hownT 3 1 encI v45 l44 :: hown 28 1 v17 l16.length us18 :: l⟩ ∧ syllogistlaw_KnowHears_k64 l44 nx59 v_63 = some r) ?_ (fun hk65 => ?_)
            · rintro _ _ ⟨v_63, rfl, rfl, hr⟩
              unfold syllogistlaw_KnowHears_k64 at hr
              try dsimp only at hr
              refine NX.then ?_
              obtain ⟨hq69, hr⟩ := guard_some hr; replace hq69 := of_decide_eq_true hq69
              refine Tr.region_f (fun i => Nat.beq i 2 || Nat.beq i 3) ?_
              refine W.q rfl rfl rfl rfl (by decide) (Yd.mv rfl (.t rfl)) ?_
              refine W.q rfl rfl rfl rfl (by decide) (Yd.mv rfl (.t rfl)) ?_
              refine W.e rfl rfl rfl rfl (by decide) (Ef.bsT (enc := encI) (vs := [_]) (ys := [v_63]) (fun _ => rfl) IF3 rfl Try.underlying28 (by decide) rfl (.cons (.t rfl) .nil) rfl rfl (by decide)) ?_
              rintro v66 _ rfl
              refine ⟨.inl rfl, ?_⟩
              refine W.cast (m' := m20) (l' := hownT 3 1 encI v66 _ :: hownT 3 1 encI v45 _ :: hown 28 1 v17 _ _ :: l) rfl rfl ?_
              refine W.e rfl rfl rfl rfl (by decide) (Ef.apI (pos := 1) (enc := encI) (xs := l44) (ys := ([v_63] : List Int)) (fun _ => rfl) IF3 rfl rfl Try.underlying28 rfl (by decide) (.t rfl) (.t rfl) (Src.own (pos := 0) rfl) (fun _ => rfl) (by omega) (by omega)) ?_
              rintro v68 _ rfl
              refine ⟨.inl rfl, ?_⟩
              refine W.cast (m' := m20) (l' := hownT 3 1 encI v66 _ :: hownT 3 1 encI v68 _ :: hown 28 1 v17 _ _ :: l) rfl rfl ?_
              refine W.q rfl rfl rfl rfl (by decide) (Yd.as rfl (.t rfl)) ?_
              refine W.end ?_
              refine NX.sub (env' := [(0, _), (2, _), (7, _), (8, _), (10, _), (12, _), (13, _), (14, _), (37, _), (38, _), (39, _)]) ⟨rfl, rfl, rfl, rfl, rfl, rfl, rfl, rfl, rfl, rfl, rfl, trivial⟩ ?_
              refine NX.drop (l' := hownT 3 1 encI v68 _ :: hown 28 1 v17 _ _ :: l) (.cons _ (.cons_cons _ (.cons_cons _ (.refl _)))) ?_
              refine NX.block ?_
              refine NX.then ?_
              refine Tr.region_f (fun _ => false) ?_
              refine W.q rfl rfl rfl rfl (by decide) (Yd.mv rfl (.t rfl)) ?_
              refine W.q rfl rfl rfl rfl (by decide) (Yd.add rfl (.t rfl) .c) ?_
              refine W.q rfl rfl rfl rfl (by decide) (Yd.as rfl (.t rfl)) ?_
              refine W.end ?_
              refine NX.sub (env' := [(0, _), (2, _), (7, _), (8, _), (10, _), (12, _), (13, _), (14, _), (37, _), (38, _), (39, _)]) ⟨rfl, rfl, rfl, rfl, rfl, rfl, rfl, rfl, rfl, rfl, rfl, trivial⟩ ?_
              refine NX.sub (env' := [(0, _), (2, _), (7, _), (8, _), (10, _), (12, _), (13, _), (14, _), (37, _), (38, _), (39, _)]) ⟨rfl, rfl, rfl, rfl, rfl, rfl, rfl, rfl, rfl, rfl, rfl, trivial⟩ ?_
              have hw := w64_id (n := w_57 + 1) (by omega) (by omega)
              exact NX.again n60 (w_57 + 1, (l44 ++ ([v_63] : List Int))) (Nat.lt_succ_self _) ⟨_, (by rw [hw] <;> rfl), rfl, (fr_dec hnw_57), (by omega), ((hnx59 _).symm.trans hr)⟩
            refine Tr.block ?_
            refine Tr.sub (env' := [(0, _), (2, _), (7, _), (8, _), (10, _), (12, _), (13, _), (14, _), (15, _), (37, _), (38, _), (39, _)]) ⟨rfl, rfl, rfl, rfl, rfl, rfl, rfl, rfl, rfl, rfl, rfl, rfl, trivial⟩ ?_
            refine Tr.loop (S := fun n (z : Int) env x => match z with | v_62 => env = [(0, .int .i64 n_0), (2, .int .u32 (event_2.toNat : Int)), (7, u3), (8, .int .i64 r1.2), (10, v17), (12, u36), (13, v45), (14, .int .i64 w_57), (15, .int .i64 v_62), (37, ucells_1), (38, .int .i64 ((cells_1.length : Int))), (39, .int .i64 t_30)] ∧ x = ⟨m20, hownT 3 1 encI v45 l44 :: hown 28 1 v17 l16.length us18 :: l⟩ ∧ whileK (σ := Int) (fun s nx_ => syllogistlaw_KnowHears_b70 event_2 y34 w_57 l44 nx59 s nx_) n v_62 = some r) _ (0 : Int) ⟨rfl, rfl, hr⟩ ?_
            rintro n72 v_62 env x ⟨rfl, rfl, hr⟩
            cases n72 with
            | zero => simp [whileK] at hr
            | succ n72 =>
              obtain ⟨nx71, hnx71, hr⟩ := whileK_succ hr
              try dsimp only at hr
              unfold syllogistlaw_KnowHears_b70 at hr
              try dsimp only at hr
              refine Tr.seq ?_
              refine Tr.seq ?_
              obtain ⟨y73, hy74, hr⟩ := bind_some hr
              obtain ⟨y75, hy76, hr⟩ := bind_some hr
              obtain ⟨ha77, hr⟩ := guard_some hr
              obtain ⟨ha78, hr⟩ := guard_some hr
              refine Tr.region_x (fun _ => false) (fun _ => false) (Ord.of [0, 1, 2, 3, 4, 5, 6, 7, 8, 9, 10, 11, 12, 13, 14, 15, 16, 17]) FM (by kernel_rfl) ?_
              refine W.q rfl rfl rfl rfl (by decide) (Yd.mv rfl (.t rfl)) ?_
              refine W.q rfl rfl rfl rfl (by decide) (Yd.mv rfl (.t rfl)) ?_
              refine W.q rfl rfl rfl rfl (by decide) (Yd.idxR hu37 hy74 rfl Try.underlying28 SZ3 (.t rfl) (.t rfl)) ?_
              refine W.q rfl rfl rfl rfl (by decide) (Yd.ldF hu37 (.refl _) hy74 rfl rfl ON3 (.t rfl)) ?_
              refine W.q rfl rfl rfl rfl (by decide) (Yd.mv rfl (.t rfl)) ?_
              refine W.q rfl rfl rfl rfl (by decide) (Yd.mv rfl (.t rfl)) ?_
              refine W.q rfl rfl rfl rfl (by decide) (Yd.idxR hu37 hy76 rfl Try.underlying28 SZ3 (.t rfl) (.t rfl)) ?_
              refine W.q rfl rfl rfl rfl (by decide) (Yd.ldF hu37 (.refl _) hy76 rfl rfl ON3 (.t rfl)) ?_
              refine W.q rfl rfl rfl rfl (by decide) (Yd.neq rfl (.t rfl) (.t rfl)) ?_
              refine W.q rfl rfl rfl rfl (by decide) (Yd.mv rfl (.t rfl)) ?_
              refine W.g rfl rfl rfl rfl rfl (.t rfl _) rfl (by decide) (fun hG => Yd.mv rfl (.t rfl)) ?_
              refine W.g rfl rfl rfl rfl rfl (.t rfl _) rfl (by decide) (fun hG => Yd.mv rfl (.t rfl)) ?_
              refine W.g rfl rfl rfl rfl rfl (.t rfl _) rfl (by decide) (fun hG => Yd.call (v := .bool ((((syllogistref_Bit event_2 v_62).getD false)))) rfl Try.func17 rfl rfl (.cons (.g rfl hG) (.cons (.g rfl hG) .nil)) (fun x' hx w hw => syllogistref_Bit_ok w0 x'.m x'.l event_2 v_62 _ (gd_get (d := false) ha77 hG) w hw)) ?_
              refine W.g rfl rfl rfl rfl rfl (.t rfl _) rfl (by decide) (fun hG => Yd.mv rfl (.t rfl)) ?_
              refine W.g rfl rfl rfl rfl rfl (.t rfl _) rfl (by decide) (fun hG => Yd.mv rfl (.t rfl)) ?_
              refine W.g rfl rfl rfl rfl rfl (.t rfl _) rfl (by decide) (fun hG => Yd.call (v := .bool ((((syllogistref_Bit event_2 w_57).getD false)))) rfl Try.func17 rfl rfl (.cons (.g rfl hG) (.cons (.g rfl hG) .nil)) (fun x' hx w hw => syllogistref_Bit_ok w0 x'.m x'.l event_2 w_57 _ (gd_get (d := false) ha78 hG) w hw)) ?_
              refine W.g rfl rfl rfl rfl rfl (.t rfl _) rfl (by decide) (fun hG => Yd.neqB Try.underlying4 rfl (.g rfl hG) (.g rfl hG)) ?_
              refine W.q rfl rfl rfl rfl (by decide) (Yd.or rfl (.t rfl) .c rfl rfl) ?_
              refine W.end ?_
              refine NX.sub (env' := [(0, _), (2, _), (7, _), (8, _), (10, _), (12, _), (13, _), (14, _), (15, _), (37, _), (38, _), (39, _), (65, _)]) ⟨rfl, rfl, rfl, rfl, rfl, rfl, rfl, rfl, rfl, rfl, rfl, rfl, rfl, trivial⟩ ?_
              refine NX.then ?_
              refine Tr.cond (.t rfl) (fun hb => ?_) (fun hb => ?_)
              · have hr := cond_t hb hr
                refine Tr.skip' ?_
                refine NX.then ?_
                refine Tr.block ?_
                refine Tr.region_f (fun _ => false) ?_
                refine W.q rfl rfl rfl rfl (by decide) (Yd.mv rfl (.t rfl)) ?_
                refine W.q rfl rfl rfl rfl (by decide) (Yd.add rfl (.t rfl) .c) ?_
                refine W.q rfl rfl rfl rfl (by decide) (Yd.as rfl (.t rfl)) ?_
                refine W.end ?_
                refine NX.sub (env' := [(0, _), (2, _), (7, _), (8, _), (10, _), (12, _), (13, _), (14, _), (15, _), (37, _), (38, _), (39, _)]) ⟨rfl, rfl, rfl, rfl, rfl, rfl, rfl, rfl, rfl, rfl, rfl, rfl, trivial⟩ ?_
                refine NX.block ?_
                refine NX.sub (env' := [(0, _), (2, _), (7, _), (8, _), (10, _), (12, _), (13, _), (14, _), (15, _), (37, _), (38, _), (39, _)]) ⟨rfl, rfl, rfl, rfl, rfl, rfl, rfl, rfl, rfl, rfl, rfl, rfl, trivial⟩ ?_
                exact NX.again n72 (w64 (v_62 + (1 : Int))) (Nat.lt_succ_self _) ⟨rfl, rfl, ((hnx71 _).symm.trans hr)⟩
              · have hr := cond_f hb hr
                refine Tr.exit' (EX.then (EX.then (EX.block ?_)))
                refine NX.sub (env' := [(0, _), (2, _), (7, _), (8, _), (10, _), (12, _), (13, _), (14, _), (37, _), (38, _), (39, _), (15, _)]) ⟨rfl, rfl, rfl, rfl, rfl, rfl, rfl, rfl, rfl, rfl, rfl, rfl, trivial⟩ ?_
                exact hk65 _ _ ⟨_, rfl, rfl, hr⟩
end Go.Proofs.Ytoninfimcobeiaa.Sy
