/- Functions of the program as plain functions, and that the translation computes them; the conditions stand in each theorem. Printed by an own program. -/
import Derived.Test.YtehfjfaanhdbaaaSyS
import Derived.Test.YtehfjfaanhdbaaaT
import Derived.Test.YtehfjfaanhdbaaaProg
namespace Go.Proofs.Ytehfjfaanhdbaaa.Sy
open Go
set_option linter.unusedVariables false
theorem ON3 : one Try.prog 3 = true := by kernel_rfl
theorem SZ38 : (Try.prog.info? 38).map (·.size) = some 1 := by kernel_rfl
theorem ON38 : one Try.prog 38 = true := by kernel_rfl
theorem IF33 : (Try.prog.info? 33).map (fun i => (i.zero, i.size, i.bytes)) = some (some (.int .u32 0), 1, 4) := by kernel_rfl
theorem IF38 : (Try.prog.info? 38).map (fun i => (i.zero, i.size, i.bytes)) = some (some (.slice none 0 0), 1, 24) := by kernel_rfl
theorem SZ33 : (Try.prog.info? 33).map (·.size) = some 1 := by kernel_rfl
theorem ON33 : one Try.prog 33 = true := by kernel_rfl
theorem SZ94 : (Try.prog.info? 94).map (·.size) = some 3 := by kernel_rfl
theorem ON94 : one Try.prog 94 = false := by kernel_rfl
theorem US94 : (Try.prog.underlying 94).isSome = true := by kernel_rfl
theorem ZR94 : (Try.prog.info? 94).bind (·.zero) = some (.agg #[.int .u32 0, .int .u32 0, .int .u32 0]) := by kernel_rfl
theorem FM : Try.prog.follows .mixedOrders = true := by kernel_rfl

def rights_wrong_c1 (row_0 : List (BitVec 32)) (cp_0 : Int) : Option (Bool) :=
  some (((row_0.length : Int) != cp_0))

set_option maxRecDepth 100000 in
theorem rights_wrong_c1_ok (w0 : World) (m : Snap) (l : List HI) (urow_0 : Value) (row_0 : List (BitVec 32)) (hrow_0 : RS rU m urow_0 row_0) (fp0 fb0 : Nat) (cp_0 : Int) (hfp0 : l[fp0]? = some (hcells fb0 [.int .i64 cp_0] 3)) (r : Bool) (hr : rights_wrong_c1 row_0 cp_0 = some r) (w : World) (hc : cX w0 ⟨m, l⟩ w) :
    Calls Try.prog 71 [urow_0, bp fb0 0].toArray w fun e w' => e = .returned (.bool r) ∧ cX w0 ⟨m, l⟩ w' := by
  unfold rights_wrong_c1 at hr
  refine calls_of_Tr (N := 8) Try.func71 rfl hc rfl (Nat.le_of_ble_eq_true rfl) ?_
  refine Tr.seq ?_
  refine Tr.region_f (fun _ => false) ?_
  refine W.q rfl rfl rfl rfl (by decide) (Yd.as rfl .c) ?_
  refine W.end ?_
  refine NX.sub (env' := [(0, _), (1, _)]) ⟨rfl, rfl, trivial⟩ ?_
  refine NX.then ?_
  refine Tr.seq ?_
  refine Tr.region_f (fun _ => false) ?_
  refine W.q rfl rfl rfl rfl (by decide) (Yd.mv rfl (.t rfl)) ?_
  refine W.q rfl rfl rfl rfl (by decide) (Yd.lenR hrow_0 rfl Try.underlying38 (.t rfl)) ?_
  refine W.q rfl rfl rfl rfl (by decide) (Yd.ldB (pos := fp0) hfp0 rfl rfl ON3 (.t rfl)) ?_
  refine W.q rfl rfl rfl rfl (by decide) (Yd.neq rfl (.t rfl) (.t rfl)) ?_
  refine W.q rfl rfl rfl rfl (by decide) (Yd.as rfl (.t rfl)) ?_
  refine W.end ?_
  refine NX.sub (env' := [(3, _)]) ⟨rfl, trivial⟩ ?_
  refine NX.then ?_
  refine Tr.ret' ?_
  refine res1 rfl rfl ?_
  intro w hc
  cases hr
  exact ⟨rfl, hc⟩

def slices_IndexFunc_apiMatrixSuint32_k3 : Option (Int) :=
  some ((-1 : Int))

def slices_IndexFunc_apiMatrixSuint32_b7 (s_0 : List (List (BitVec 32))) (f_1 : List (BitVec 32) → Option Bool) (t_6 : Int) (nx8 : Unit → Option (Int)) : Option (Int) :=
  (geti s_0 t_6).bind fun y10 =>
  (f_1 y10).bind fun r15 =>
  (bif r15 then
  some t_6
  else
  nx8 ())

def slices_IndexFunc_apiMatrixSuint32 (s_0 : List (List (BitVec 32))) (f_1 : List (BitVec 32) → Option Bool) : Option (Int) :=
  forK (σ := Unit) (fun i s nx_ => slices_IndexFunc_apiMatrixSuint32_b7 s_0 f_1 i nx_) (fun _ => slices_IndexFunc_apiMatrixSuint32_k3) ((s_0.length : Int) - (0 : Int)).toNat (0 : Int) ()

set_option maxRecDepth 100000 in
theorem slices_IndexFunc_apiMatrixSuint32_ok (w0 : World) (m : Snap) (l : List HI) (us_0 : Value) (s_0 : List (List (BitVec 32))) (hs_0 : RS (Rp.slice rU) m us_0 s_0) (uf_1 : Value) (f_1 : List (BitVec 32) → Option Bool) (hf_1 : Fq Try.prog w0 ⟨m, l⟩ uf_1 (α := List (BitVec 32)) (β := Bool) (fun m v a => RS rU m v a) (fun b => .bool b) f_1) (r : Int) (hr : slices_IndexFunc_apiMatrixSuint32 s_0 f_1 = some r) (w : World) (hc : cX w0 ⟨m, l⟩ w) :
    Calls Try.prog 83 [us_0, uf_1].toArray w fun e w' => e = .returned (.int .i64 r) ∧ cX w0 ⟨m, l⟩ w' := by
  unfold slices_IndexFunc_apiMatrixSuint32 at hr
  refine calls_of_Tr (N := 19) Try.func83 rfl hc rfl (Nat.le_of_ble_eq_true rfl) ?_
  refine Tr.seq ?_
  refine Tr.region_f (fun _ => false) ?_
  refine W.q rfl rfl rfl rfl (by decide) (Yd.as rfl .c) ?_
  refine W.end ?_
  refine NX.sub (env' := [(0, _), (1, _)]) ⟨rfl, rfl, trivial⟩ ?_
  refine NX.then ?_
  refine Tr.seq ?_
  refine Tr.seq ?_
  refine Tr.region_f (fun _ => false) ?_
  refine W.q rfl rfl rfl rfl (by decide) (Yd.mv rfl (.t rfl)) ?_
  refine W.q rfl rfl rfl rfl (by decide) (Yd.lenR hs_0 rfl Try.underlying23 (.t rfl)) ?_
  refine W.q rfl rfl rfl rfl (by decide) (Yd.mv rfl .c) ?_
  refine W.end ?_
  refine NX.sub (env' := [(0, _), (1, _), (7, _), (8, _)]) ⟨rfl, rfl, rfl, rfl, trivial⟩ ?_
  refine NX.then ?_
  refine Tr.join (S := fun env x => env = [] ∧ x = ⟨m, l⟩ ∧ slices_IndexFunc_apiMatrixSuint32_k3 = some r) ?_ (fun hk4 => ?_)
  · rintro _ _ ⟨rfl, rfl, hr⟩
    unfold slices_IndexFunc_apiMatrixSuint32_k3 at hr
    try dsimp only at hr
    refine NX.then ?_
    refine Tr.seq ?_
    refine Tr.region_f (fun _ => false) ?_
    refine W.q rfl rfl rfl rfl (by decide) (Yd.as rfl .c) ?_
    refine W.end ?_
    refine NX.sub (env' := [(4, _)]) ⟨rfl, trivial⟩ ?_
    refine NX.then ?_
    refine Tr.ret' ?_
    refine res1 rfl rfl ?_
    intro w hc
    cases hr
    exact ⟨rfl, hc⟩
  have hlen5 := (hs_0).2.1
  refine Tr.block ?_
  refine Tr.sub (env' := [(0, _), (1, _), (7, _), (8, _)]) ⟨rfl, rfl, rfl, rfl, trivial⟩ ?_
  refine Tr.loop (S := fun n (z : Int × Unit) env x => match z with | (t_6, _) => env = [(0, us_0), (1, uf_1), (7, .int .i64 ((s_0.length : Int))), (8, .int .i64 t_6)] ∧ x = ⟨m, l⟩ ∧ n = ((s_0.length : Int) - t_6).toNat ∧ 0 ≤ t_6 ∧ forK (σ := Unit) (fun i s nx_ => slices_IndexFunc_apiMatrixSuint32_b7 s_0 f_1 i nx_) (fun _ => slices_IndexFunc_apiMatrixSuint32_k3) n t_6 () = some r) _ ((0 : Int), ()) ⟨rfl, rfl, rfl, (by omega), hr⟩ ?_
  rintro n9 ⟨t_6, _⟩ env x ⟨rfl, rfl, hnt_6, h0t_6, hr⟩
  cases n9 with
  | zero =>
    simp only [forK] at hr
    refine Tr.seq ?_
    refine Tr.region_f (fun _ => false) ?_
    refine W.q rfl rfl rfl rfl (by decide) (Yd.lss rfl (.t rfl) (.t rfl)) ?_
    refine W.end ?_
    refine NX.sub (env' := [(0, _), (1, _), (7, _), (8, _), (9, _)]) ⟨rfl, rfl, rfl, rfl, rfl, trivial⟩ ?_
    refine NX.then ?_
    refine Tr.seq ?_
    refine Tr.cond (.t rfl) (fun hb => ?_) (fun hb => ?_)
    · exact absurd (hb.symm.trans (fr_end hnt_6)) (by decide)
    ·
      refine Tr.exit' (EX.then (EX.then (EX.block ?_)))
      refine NX.sub (env' := []) trivial ?_
      exact hk4 _ _ ⟨rfl, rfl, hr⟩
  | succ n9 =>
    obtain ⟨nx8, hnx8, hr⟩ := forK_succ hr
    try dsimp only at hr
    unfold slices_IndexFunc_apiMatrixSuint32_b7 at hr
    try dsimp only at hr
    have hltt_6 := fr_bnd hnt_6
    refine Tr.seq ?_
    refine Tr.region_f (fun _ => false) ?_
    refine W.q rfl rfl rfl rfl (by decide) (Yd.lss rfl (.t rfl) (.t rfl)) ?_
    refine W.end ?_
    refine NX.sub (env' := [(0, _), (1, _), (7, _), (8, _), (9, _)]) ⟨rfl, rfl, rfl, rfl, rfl, trivial⟩ ?_
    refine NX.then ?_
    refine Tr.seq ?_
    refine Tr.cond (.t rfl) (fun hb => ?_) (fun hb => ?_)
    rotate_left
    · exact absurd (hb.symm.trans (fr_go hnt_6)) (by decide)
    ·
      refine Tr.skip' ?_
      refine NX.then ?_
      refine Tr.seq ?_
      refine Tr.block ?_
      refine Tr.seq ?_
      refine Tr.region_f (fun _ => false) ?_
      refine W.q rfl rfl rfl rfl (by decide) (Yd.mv rfl (.t rfl)) ?_
      refine W.q rfl rfl rfl rfl (by decide) (Yd.as rfl (.t rfl)) ?_
      refine W.end ?_
      refine NX.sub (env' := [(0, _), (1, _), (7, _), (8, _), (5, _)]) ⟨rfl, rfl, rfl, rfl, rfl, trivial⟩ ?_
      refine NX.then ?_
      refine Tr.seq ?_
      obtain ⟨y10, hy11, hr⟩ := bind_some hr
      obtain ⟨r15, hr16, hr⟩ := bind_some hr
      refine Tr.region_f (fun _ => false) ?_
      refine W.q rfl rfl rfl rfl (by decide) (Yd.mv rfl (.t rfl)) ?_
      refine W.q rfl rfl rfl rfl (by decide) (Yd.mv rfl (.t rfl)) ?_
      refine W.q rfl rfl rfl rfl (by decide) (Yd.mv rfl (.t rfl)) ?_
      refine W.q rfl rfl rfl rfl (by decide) (Yd.idxR hs_0 hy11 rfl Try.underlying23 SZ38 (.t rfl) (.t rfl)) ?_
      obtain ⟨u12, hu13, hat14⟩ := hs_0.row hy11
      refine W.q rfl rfl rfl rfl (by decide) (Yd.ldRow hat14 (.refl _) rfl ON38 (.t rfl)) ?_
      refine W.q rfl rfl rfl rfl (by decide) (Yd.callF hf_1 ⟨(.refl _), [], rfl⟩ rfl (.t rfl) (.t rfl) (fun _ hm => hu13.mono hm) hr16) ?_
      refine W.end ?_
      refine NX.sub (env' := [(0, _), (1, _), (7, _), (8, _), (5, _), (16, _)]) ⟨rfl, rfl, rfl, rfl, rfl, rfl, trivial⟩ ?_
      refine NX.then ?_
      refine Tr.cond (.t rfl) (fun hb => ?_) (fun hb => ?_)
      · have hr := cond_t hb hr
        refine Tr.seq ?_
        refine Tr.region_f (fun _ => false) ?_
        refine W.q rfl rfl rfl rfl (by decide) (Yd.mv rfl (.t rfl)) ?_
        refine W.q rfl rfl rfl rfl (by decide) (Yd.as rfl (.t rfl)) ?_
        refine W.end ?_
        refine NX.sub (env' := [(4, _)]) ⟨rfl, trivial⟩ ?_
        refine NX.then ?_
        refine Tr.ret' (RT.block (RT.then (RT.then (RT.block (RT.then ?_)))))
        refine res1 rfl rfl ?_
        intro w hc
        cases hr
        exact ⟨rfl, hc⟩
      · have hr := cond_f hb hr
        refine Tr.skip' ?_
        refine NX.block ?_
        refine NX.then ?_
        refine Tr.region_f (fun _ => false) ?_
        refine W.q rfl rfl rfl rfl (by decide) (Yd.add rfl (.t rfl) .c) ?_
        refine W.q rfl rfl rfl rfl (by decide) (Yd.mv rfl (.t rfl)) ?_
        refine W.end ?_
        refine NX.sub (env' := [(0, _), (1, _), (7, _), (8, _)]) ⟨rfl, rfl, rfl, rfl, trivial⟩ ?_
        refine NX.sub (env' := [(0, _), (1, _), (7, _), (8, _)]) ⟨rfl, rfl, rfl, rfl, trivial⟩ ?_
        have hw := w64_id (n := t_6 + 1) (by omega) (by omega)
        exact NX.again n9 (t_6 + 1, ()) (Nat.lt_succ_self _) ⟨(by rw [hw] <;> rfl), rfl, (fr_dec hnt_6), (by omega), ((hnx8 _).symm.trans hr)⟩

def slices_ContainsFunc_apiMatrixSuint32 (s_0 : List (List (BitVec 32))) (f_1 : List (BitVec 32) → Option Bool) : Option (Bool) :=
  (slices_IndexFunc_apiMatrixSuint32 s_0 f_1).bind fun r1 =>
  some ((decide (r1 ≥ (0 : Int))))

set_option maxRecDepth 100000 in
theorem slices_ContainsFunc_apiMatrixSuint32_ok (w0 : World) (m : Snap) (l : List HI) (us_0 : Value) (s_0 : List (List (BitVec 32))) (hs_0 : RS (Rp.slice rU) m us_0 s_0) (uf_1 : Value) (f_1 : List (BitVec 32) → Option Bool) (hf_1 : Fq Try.prog w0 ⟨m, l⟩ uf_1 (α := List (BitVec 32)) (β := Bool) (fun m v a => RS rU m v a) (fun b => .bool b) f_1) (r : Bool) (hr : slices_ContainsFunc_apiMatrixSuint32 s_0 f_1 = some r) (w : World) (hc : cX w0 ⟨m, l⟩ w) :
    Calls Try.prog 70 [us_0, uf_1].toArray w fun e w' => e = .returned (.bool r) ∧ cX w0 ⟨m, l⟩ w' := by
  unfold slices_ContainsFunc_apiMatrixSuint32 at hr
  refine calls_of_Tr (N := 9) Try.func70 rfl hc rfl (Nat.le_of_ble_eq_true rfl) ?_
  refine Tr.seq ?_
  refine Tr.region_f (fun _ => false) ?_
  refine W.q rfl rfl rfl rfl (by decide) (Yd.as rfl .c) ?_
  refine W.end ?_
  refine NX.sub (env' := [(0, _), (1, _)]) ⟨rfl, rfl, trivial⟩ ?_
  refine NX.then ?_
  refine Tr.seq ?_
  obtain ⟨r1, hr2, hr⟩ := bind_some hr
  refine Tr.region_f (fun _ => false) ?_
  refine W.q rfl rfl rfl rfl (by decide) (Yd.mv rfl (.t rfl)) ?_
  refine W.q rfl rfl rfl rfl (by decide) (Yd.mv rfl (.t rfl)) ?_
  refine W.q rfl rfl rfl rfl (by decide) (Yd.call (v := .int .i64 r1) rfl Try.func83 rfl rfl (.cons (.t rfl) (.cons (.t rfl) .nil)) (fun x' hx w hw => slices_IndexFunc_apiMatrixSuint32_ok w0 x'.m x'.l _ _ (hs_0.mono hx.1) _ f_1 (hf_1.mono (leX_trans _ _ _ ⟨(.refl _), [], rfl⟩ hx)) _ hr2 w hw)) ?_
  refine W.q rfl rfl rfl rfl (by decide) (Yd.geq rfl (.t rfl) .c) ?_
  refine W.q rfl rfl rfl rfl (by decide) (Yd.as rfl (.t rfl)) ?_
  refine W.end ?_
  refine NX.sub (env' := [(4, _)]) ⟨rfl, trivial⟩ ?_
  refine NX.then ?_
  refine Tr.ret' ?_
  refine res1 rfl rfl ?_
  intro w hc
  cases hr
  exact ⟨rfl, hc⟩

def rights_wrong (n_0 : Int) (m_1 : List (List (BitVec 32))) (chains_2 : List Chain) : Option (Int) :=
  (bif (((decide (n_0 < (1 : Int))) || (decide (n_0 > (6 : Int)))) || (decide ((chains_2.length : Int) > (10 : Int)))) then
  some ((1 : Int))
  else
  bif (!(((m_1.length : Int) != n_0) == false) || (slices_ContainsFunc_apiMatrixSuint32 m_1 (fun a => rights_wrong_c1 a n_0)).isSome) then
  (bif (((m_1.length : Int) != n_0) || (((slices_ContainsFunc_apiMatrixSuint32 m_1 (fun a => rights_wrong_c1 a n_0)).getD false))) then
  some ((3 : Int))
  else
  some ((0 : Int))) else none)

set_option maxRecDepth 100000 in
theorem rights_wrong_ok (w0 : World) (m : Snap) (l : List HI) (n_0 : Int) (um_1 : Value) (m_1 : List (List (BitVec 32))) (hm_1 : RS (Rp.slice rU) m um_1 m_1) (uchains_2 : Value) (chains_2 : List Chain) (hchains_2 : RS rChain m uchains_2 chains_2) (r : Int) (hr : rights_wrong n_0 m_1 chains_2 = some r) (w : World) (hc : cX w0 ⟨m, l⟩ w) :
    Calls Try.prog 43 [.int .i64 n_0, um_1, uchains_2].toArray w fun e w' => e = .returned (.int .i64 r) ∧ cX w0 ⟨m, l⟩ w' := by
  unfold rights_wrong at hr
  refine calls_of_Tr (N := 27) Try.func43 rfl hc rfl (Nat.le_of_ble_eq_true rfl) ?_
  refine Tr.seq ?_
  refine Tr.region_f (fun i => Nat.beq i 0) ?_
  refine W.e rfl rfl rfl rfl (by decide) (Ef.bx rfl (.t rfl) rfl) ?_
  rintro _ _ ⟨b1, rfl, rfl⟩
  refine ⟨.inl rfl, ?_⟩
  refine W.cast (m' := m) (l' := hcells b1 [_] 3 :: l) rfl rfl ?_
  refine W.q rfl rfl rfl rfl (by decide) (Yd.as rfl .c) ?_
  refine W.end ?_
  refine NX.sub (env' := [(1, _), (2, _), (3, _)]) ⟨rfl, rfl, rfl, trivial⟩ ?_
  refine NX.then ?_
  refine Tr.seq ?_
  refine Tr.seq ?_
  refine Tr.region_f (fun _ => false) ?_
  refine W.q rfl rfl rfl rfl (by decide) (Yd.ldB (pos := 0) rfl rfl rfl ON3 (.t rfl)) ?_
  refine W.q rfl rfl rfl rfl (by decide) (Yd.lss rfl (.t rfl) .c) ?_
  refine W.q rfl rfl rfl rfl (by decide) (Yd.mv rfl (.t rfl)) ?_
  refine W.g rfl rfl rfl rfl rfl (.t rfl _) rfl (by decide) (fun hG => Yd.ldB (pos := 0) rfl rfl rfl ON3 (.t rfl)) ?_
  refine W.g rfl rfl rfl rfl rfl (.t rfl _) rfl (by decide) (fun hG => Yd.gtr rfl (.g rfl hG) .c) ?_
  refine W.q rfl rfl rfl rfl (by decide) (Yd.or rfl (.t rfl) .c rfl rfl) ?_
  refine W.q rfl rfl rfl rfl (by decide) (Yd.mv rfl (.t rfl)) ?_
  refine W.g rfl rfl rfl rfl rfl (.t rfl _) rfl (by decide) (fun hG => Yd.mv rfl (.t rfl)) ?_
  refine W.g rfl rfl rfl rfl rfl (.t rfl _) rfl (by decide) (fun hG => Yd.lenR hchains_2 rfl Try.underlying24 (.g rfl hG)) ?_
  refine W.g rfl rfl rfl rfl rfl (.t rfl _) rfl (by decide) (fun hG => Yd.gtr rfl (.g rfl hG) .c) ?_
  refine W.q rfl rfl rfl rfl (by decide) (Yd.or rfl (.t rfl) .c rfl rfl) ?_
  refine W.end ?_
  refine NX.sub (env' := [(1, _), (3, _), (17, _)]) ⟨rfl, rfl, rfl, trivial⟩ ?_
  refine NX.then ?_
  refine Tr.cond (.t rfl) (fun hb => ?_) (fun hb => ?_)
  · have hr := cond_t hb hr
    refine Tr.seq ?_
    refine Tr.region_f (fun _ => false) ?_
    refine W.q rfl rfl rfl rfl (by decide) (Yd.as rfl .c) ?_
    refine W.end ?_
    refine NX.sub (env' := [(6, _)]) ⟨rfl, trivial⟩ ?_
    refine NX.drop (l' := l) (.cons _ (.refl _)) ?_
    refine NX.then ?_
    refine Tr.ret' (RT.then ?_)
    refine res1 rfl rfl ?_
    intro w hc
    cases hr
    exact ⟨rfl, hc⟩
  · have hr := cond_f hb hr
    refine Tr.skip' ?_
    refine NX.then ?_
    refine Tr.seq ?_
    refine Tr.seq ?_
    obtain ⟨ha3, hr⟩ := guard_some hr
    refine Tr.region_f (fun _ => false) ?_
    refine W.q rfl rfl rfl rfl (by decide) (Yd.mv rfl (.t rfl)) ?_
    refine W.q rfl rfl rfl rfl (by decide) (Yd.lenR hm_1 rfl Try.underlying23 (.t rfl)) ?_
    refine W.q rfl rfl rfl rfl (by decide) (Yd.ldB (pos := 0) rfl rfl rfl ON3 (.t rfl)) ?_
    refine W.q rfl rfl rfl rfl (by decide) (Yd.neq rfl (.t rfl) (.t rfl)) ?_
    refine W.q rfl rfl rfl rfl (by decide) (Yd.mv rfl (.t rfl)) ?_
    refine W.g rfl rfl rfl rfl rfl (.t rfl _) rfl (by decide) (fun hG => Yd.mv rfl (.t rfl)) ?_
    refine W.g rfl rfl rfl rfl rfl (.t rfl _) rfl (by decide) (fun hG => Yd.mkf rfl (.cons (.t rfl) .nil)) ?_
    refine W.g rfl rfl rfl rfl rfl (.t rfl _) rfl (by decide) (fun hG => Yd.call (v := .bool ((((slices_ContainsFunc_apiMatrixSuint32 m_1 (fun a => rights_wrong_c1 a n_0)).getD false)))) rfl Try.func70 rfl rfl (.cons (.g rfl hG) (.cons (.g rfl hG) .nil)) (fun x' hx w hw => slices_ContainsFunc_apiMatrixSuint32_ok w0 x'.m x'.l _ _ (hm_1.mono hx.1) _ (fun a => rights_wrong_c1 a n_0) ⟨71, _, _, rfl, Try.func71, rfl, rfl, fun y hy w2 hw2 v a r2 hv hr2 => by obtain ⟨p5, hp5⟩ := (leX_trans _ _ _ hx hy).at (p := 0) rfl; exact rights_wrong_c1_ok w0 y.m y.l v a hv p5 _ n_0 hp5 r2 hr2 w2 hw2⟩ _ (gd_get (d := false) ha3 hG) w hw)) ?_
    refine W.q rfl rfl rfl rfl (by decide) (Yd.or rfl (.t rfl) .c rfl rfl) ?_
    refine W.end ?_
    refine NX.sub (env' := [(26, _)]) ⟨rfl, trivial⟩ ?_
    refine NX.drop (l' := l) (.cons _ (.refl _)) ?_
    refine NX.then ?_
    refine Tr.cond (.t rfl) (fun hb => ?_) (fun hb => ?_)
    · have hr := cond_t hb hr
      refine Tr.seq ?_
      refine Tr.region_f (fun _ => false) ?_
      refine W.q rfl rfl rfl rfl (by decide) (Yd.as rfl .c) ?_
      refine W.end ?_
      refine NX.sub (env' := [(6, _)]) ⟨rfl, trivial⟩ ?_
      refine NX.then ?_
      refine Tr.ret' (RT.then ?_)
      refine res1 rfl rfl ?_
      intro w hc
      cases hr
      exact ⟨rfl, hc⟩
    · have hr := cond_f hb hr
      refine Tr.skip' ?_
      refine NX.then ?_
      refine Tr.seq ?_
      refine Tr.region_f (fun _ => false) ?_
      refine W.q rfl rfl rfl rfl (by decide) (Yd.as rfl .c) ?_
      refine W.end ?_
      refine NX.sub (env' := [(6, _)]) ⟨rfl, trivial⟩ ?_
      refine NX.then ?_
      refine Tr.ret' ?_
      refine res1 rfl rfl ?_
      intro w hc
      cases hr
      exact ⟨rfl, hc⟩

def slices_Clone_Suint32uint32 (s_0 : List (BitVec 32)) : Option ((List (BitVec 32))) :=
  bif decide ((([] : List (BitVec 32))).length + s_0.length ≤ 35184372088832) then
  some ((([] : List (BitVec 32)) ++ s_0)) else none

set_option maxRecDepth 100000 in
theorem slices_Clone_Suint32uint32_ok (w0 : World) (m : Snap) (l : List HI) (us_0 : Value) (s_0 : List (BitVec 32)) (hs_0 : RS rU m us_0 s_0) (r : (List (BitVec 32))) (hr : slices_Clone_Suint32uint32 s_0 = some r) (w : World) (hc : cX w0 ⟨m, l⟩ w) :
    Calls Try.prog 72 [us_0].toArray w fun e w' => ∃ z0 : Value, e = .returned (z0) ∧ cX w0 ⟨m, hownT 33 1 encU z0 r :: l⟩ w' := by
  unfold slices_Clone_Suint32uint32 at hr
  refine calls_of_Tr (N := 8) Try.func72 rfl hc rfl (Nat.le_of_ble_eq_true rfl) ?_
  refine Tr.seq ?_
  refine Tr.region_f (fun _ => false) ?_
  refine W.q rfl rfl rfl rfl (by decide) (Yd.as rfl .c) ?_
  refine W.end ?_
  refine NX.sub (env' := [(0, _)]) ⟨rfl, trivial⟩ ?_
  refine NX.then ?_
  refine Tr.seq ?_
  refine Tr.seq ?_
  refine Tr.region_f (fun _ => false) ?_
  refine W.q rfl rfl rfl rfl (by decide) (Yd.mv rfl (.t rfl)) ?_
  refine W.q rfl rfl rfl rfl (by decide) (Yd.eqnil hs_0 rfl Try.underlying38 (.t rfl) .c) ?_
  refine W.end ?_
  refine NX.sub (env' := [(0, _), (4, _)]) ⟨rfl, rfl, trivial⟩ ?_
  refine NX.then ?_
  refine Tr.cond (.t rfl) (fun hb => ?_) (fun hb => ?_)
  · obtain rfl : s_0 = [] := RS.nil_of hs_0 hb
    have hr : some ([]) = some r := hr
    refine Tr.seq ?_
    refine Tr.region_f (fun _ => false) ?_
    refine W.q rfl rfl rfl rfl (by decide) (Yd.as rfl .c) ?_
    refine W.end ?_
    refine NX.sub (env' := [(2, _)]) ⟨rfl, trivial⟩ ?_
    refine NX.then ?_
    refine Tr.ret' (RT.then ?_)
    refine res1 rfl rfl ?_
    intro w hc
    cases hr
    exact ⟨_, rfl, (cX_nil hc)⟩
  ·
    refine Tr.skip' ?_
    refine NX.then ?_
    refine Tr.seq ?_
    obtain ⟨hq4, hr⟩ := guard_some hr; replace hq4 := of_decide_eq_true hq4
    refine Tr.region_f (fun i => Nat.beq i 0 || Nat.beq i 2) ?_
    refine W.e rfl rfl rfl rfl (by decide) (Ef.bsT (enc := encU) (vs := []) (ys := []) (fun _ => rfl) IF33 rfl Try.underlying38 (by decide) rfl .nil rfl rfl (by decide)) ?_
    rintro v1 _ rfl
    refine ⟨.inl rfl, ?_⟩
    refine W.cast (m' := m) (l' := hownT 33 1 encU v1 _ :: l) rfl rfl ?_
    refine W.q rfl rfl rfl rfl (by decide) (Yd.mv rfl (.t rfl)) ?_
    refine W.e rfl rfl rfl rfl (by decide) (Ef.apI (pos := 0) (enc := encU) (xs := ([] : List (BitVec 32))) (ys := s_0) (fun _ => rfl) IF33 rfl rfl Try.underlying38 rfl (by decide) (.t rfl) (.t rfl) (Src.rs (by decide) (.refl _) hs_0) (fun _ => rfl) (by omega) (by omega)) ?_
    rintro v3 _ rfl
    refine ⟨.inl rfl, ?_⟩
    refine W.cast (m' := m) (l' := hownT 33 1 encU v3 _ :: l) rfl rfl ?_
    refine W.q rfl rfl rfl rfl (by decide) (Yd.as rfl (.t rfl)) ?_
    refine W.end ?_
    refine NX.sub (env' := [(2, _)]) ⟨rfl, trivial⟩ ?_
    refine NX.then ?_
    refine Tr.ret' ?_
    refine res1 rfl rfl ?_
    intro w hc
    cases hr
    exact ⟨_, rfl, hc⟩

def rights_round_k35 (more_30 : Bool) (l31 : List (List (BitVec 32))) : Option ((List (List (BitVec 32))) × Bool) :=
  some ((l31, more_30))

def rights_round_k66 (nx42 : ((Bool × (List (List (BitVec 32)))) → Option ((List (List (BitVec 32))) × Bool))) (more_61 : Bool) (l62 : List (List (BitVec 32))) : Option ((List (List (BitVec 32))) × Bool) :=
  nx42 (more_61, l62)

def rights_round_k92 (nx71 : ((Bool × (List (List (BitVec 32)))) → Option ((List (List (BitVec 32))) × Bool))) (more_87 : Bool) (l88 : List (List (BitVec 32))) : Option ((List (List (BitVec 32))) × Bool) :=
  nx71 (more_87, l88)

def rights_round_k116 (nx97 : ((Bool × (List (List (BitVec 32)))) → Option ((List (List (BitVec 32))) × Bool))) (more_111 : Bool) (l112 : List (List (BitVec 32))) : Option ((List (List (BitVec 32))) × Bool) :=
  nx97 (more_111, l112)

def rights_round_b120 (m_0 : List (List (BitVec 32))) (chains_1 : List Chain) (t_40 : Int) (t_69 : Int) (y73 : (BitVec 32)) (t_95 : Int) (t_119 : Int) (more_105 : Bool) (l107 : List (List (BitVec 32))) (nx121 : (Bool × (List (List (BitVec 32)))) → Option ((List (List (BitVec 32))) × Bool)) : Option ((List (List (BitVec 32))) × Bool) :=
  (geti chains_1 t_119).bind fun y123 =>
  bif (!(((y123.a &&& ~~~y73) == 0#32) == true) || (geti m_0 t_69).isSome) then
  bif (!(((y123.a &&& ~~~y73) == 0#32) == true) || (geti (((geti m_0 t_69).getD [])) t_95).isSome) then
  bif (!((((y123.a &&& ~~~y73) == 0#32) && ((y123.b &&& ~~~((geti (((geti m_0 t_69).getD [])) t_95).getD (0#32))) == 0#32)) == true) || (geti l107 t_40).isSome) then
  bif (!((((y123.a &&& ~~~y73) == 0#32) && ((y123.b &&& ~~~((geti (((geti m_0 t_69).getD [])) t_95).getD (0#32))) == 0#32)) == true) || (geti (((geti l107 t_40).getD [])) t_95).isSome) then
  (bif ((((y123.a &&& ~~~y73) == 0#32) && ((y123.b &&& ~~~((geti (((geti m_0 t_69).getD [])) t_95).getD (0#32))) == 0#32)) && ((y123.c &&& ~~~((geti (((geti l107 t_40).getD [])) t_95).getD (0#32))) != 0#32)) then
  (geti l107 t_40).bind fun y136 =>
  (geti y136 t_95).bind fun y140 =>
  nx121 (true, (l107.set t_40.toNat (y136.set t_95.toNat ((y140 ||| y123.c)))))
  else
  nx121 (more_105, l107)) else none else none else none else none

def rights_round_b96 (m_0 : List (List (BitVec 32))) (chains_1 : List Chain) (t_40 : Int) (t_69 : Int) (y73 : (BitVec 32)) (t_95 : Int) (more_81 : Bool) (l83 : List (List (BitVec 32))) (nx97 : (Bool × (List (List (BitVec 32)))) → Option ((List (List (BitVec 32))) × Bool)) : Option ((List (List (BitVec 32))) × Bool) :=
  forK (σ := Bool × (List (List (BitVec 32)))) (fun i s nx_ => rights_round_b120 m_0 chains_1 t_40 t_69 y73 t_95 i s.1 s.2 nx_) (fun s => rights_round_k116 nx97 s.1 s.2) ((chains_1.length : Int) - (0 : Int)).toNat (0 : Int) (more_81, l83)

def rights_round_b70 (m_0 : List (List (BitVec 32))) (chains_1 : List Chain) (t_40 : Int) (y44 : (List (BitVec 32))) (t_69 : Int) (more_55 : Bool) (l57 : List (List (BitVec 32))) (nx71 : (Bool × (List (List (BitVec 32)))) → Option ((List (List (BitVec 32))) × Bool)) : Option ((List (List (BitVec 32))) × Bool) :=
  (geti y44 t_69).bind fun y73 =>
  forK (σ := Bool × (List (List (BitVec 32)))) (fun i s nx_ => rights_round_b96 m_0 chains_1 t_40 t_69 y73 i s.1 s.2 nx_) (fun s => rights_round_k92 nx71 s.1 s.2) ((y44.length : Int) - (0 : Int)).toNat (0 : Int) (more_55, l57)

def rights_round_b41 (m_0 : List (List (BitVec 32))) (chains_1 : List Chain) (t_40 : Int) (more_24 : Bool) (l26 : List (List (BitVec 32))) (nx42 : (Bool × (List (List (BitVec 32)))) → Option ((List (List (BitVec 32))) × Bool)) : Option ((List (List (BitVec 32))) × Bool) :=
  (geti m_0 t_40).bind fun y44 =>
  forK (σ := Bool × (List (List (BitVec 32)))) (fun i s nx_ => rights_round_b70 m_0 chains_1 t_40 y44 i s.1 s.2 nx_) (fun s => rights_round_k66 nx42 s.1 s.2) ((y44.length : Int) - (0 : Int)).toNat (0 : Int) (more_24, l26)

def rights_round_k16 (m_0 : List (List (BitVec 32))) (chains_1 : List Chain) (l12 : List (List (BitVec 32))) : Option ((List (List (BitVec 32))) × Bool) :=
  forK (σ := Bool × (List (List (BitVec 32)))) (fun i s nx_ => rights_round_b41 m_0 chains_1 i s.1 s.2 nx_) (fun s => rights_round_k35 s.1 s.2) ((m_0.length : Int) - (0 : Int)).toNat (0 : Int) (false, l12)

def rights_round_b144 (m_0 : List (List (BitVec 32))) (t_143 : Int) (l8 : List (List (BitVec 32))) (nx145 : (List (List (BitVec 32))) → Option ((List (List (BitVec 32))) × Bool)) : Option ((List (List (BitVec 32))) × Bool) :=
  (geti m_0 t_143).bind fun y147 =>
  (slices_Clone_Suint32uint32 y147).bind fun r152 =>
  bif decide (l8.length + 1 ≤ 5864062014805) then
  nx145 (l8 ++ [r152]) else none

def rights_round (m_0 : List (List (BitVec 32))) (chains_1 : List Chain) : Option ((List (List (BitVec 32))) × Bool) :=
  forK (σ := (List (List (BitVec 32)))) (fun i s nx_ => rights_round_b144 m_0 i s nx_) (fun s => rights_round_k16 m_0 chains_1 s) ((m_0.length : Int) - (0 : Int)).toNat (0 : Int) (([] : List (List (BitVec 32))))

set_option maxRecDepth 100000 in
theorem rights_round_ok (w0 : World) (m : Snap) (l : List HI) (um_0 : Value) (m_0 : List (List (BitVec 32))) (hm_0 : RS (Rp.slice rU) m um_0 m_0) (uchains_1 : Value) (chains_1 : List Chain) (hchains_1 : RS rChain m uchains_1 chains_1) (r : (List (List (BitVec 32))) × Bool) (hr : rights_round m_0 chains_1 = some r) (w : World) (hc : cX w0 ⟨m, l⟩ w) :
    Calls Try.prog 44 [um_0, uchains_1].toArray w fun e w' => ∃ z0 : Value, ∃ m1 : Snap, e = .returned (.tuple #[z0, .bool r.2]) ∧ Sle m m1 ∧ RS (Rp.slice rU) m1 z0 r.1 ∧ cX w0 ⟨m1, l⟩ w' := by
  unfold rights_round at hr
  refine calls_of_Tr (N := 102) Try.func44 rfl hc rfl (Nat.le_of_ble_eq_true rfl) ?_
  refine Tr.seq ?_
  refine Tr.region_f (fun _ => false) ?_
  refine W.q rfl rfl rfl rfl (by decide) (Yd.as rfl .c) ?_
  refine W.q rfl rfl rfl rfl (by decide) (Yd.as rfl .c) ?_
  refine W.end ?_
  refine NX.sub (env' := [(0, _), (1, _)]) ⟨rfl, rfl, trivial⟩ ?_
  refine NX.then ?_
  refine Tr.seq ?_
  refine Tr.region_f (fun _ => false) ?_
  refine W.q rfl rfl rfl rfl (by decide) (Yd.as rfl .c) ?_
  refine W.end ?_
  refine NX.sub (env' := [(0, _), (1, _), (6, _)]) ⟨rfl, rfl, rfl, trivial⟩ ?_
  refine NX.then ?_
  refine Tr.seq ?_
  refine Tr.seq ?_
  refine Tr.region_f (fun _ => false) ?_
  refine W.q rfl rfl rfl rfl (by decide) (Yd.mv rfl (.t rfl)) ?_
  refine W.q rfl rfl rfl rfl (by decide) (Yd.lenR hm_0 rfl Try.underlying23 (.t rfl)) ?_
  refine W.q rfl rfl rfl rfl (by decide) (Yd.mv rfl .c) ?_
  refine W.end ?_
  refine NX.sub (env' := [(0, _), (1, _), (6, _), (17, _), (18, _), (19, _)]) ⟨rfl, rfl, rfl, rfl, rfl, rfl, trivial⟩ ?_
  refine NX.then ?_
  refine Tr.imp (fun w hw => cX_nilM 38 33 1 encU hw) ?_
  refine Tr.cast (m' := m) (l' := hown 38 1 (.slice none 0 0) (([] : List (List (BitVec 32)))).length ([] : List Value) :: hrows 33 1 encU (([] : List Value)) (([] : List (List (BitVec 32)))) :: l) rfl rfl ?_
  refine Tr.join (S := fun env x => ∃ l12 : List (List (BitVec 32)), ∃ v13 : Value, ∃ us14 : List Value, us14.length = l12.length ∧ env = [(0, um_0), (1, uchains_1), (6, v13)] ∧ x = ⟨m, hown 38 1 v13 l12.length us14 :: hrows 33 1 encU us14 l12 :: l⟩ ∧ rights_round_k16 m_0 chains_1 l12 = some r) ?_ (fun hk17 => ?_)
  · rintro _ _ ⟨l12, v13, us14, hw15, rfl, rfl, hr⟩
    unfold rights_round_k16 at hr
    try dsimp only at hr
    refine NX.then ?_
    refine Tr.seq ?_
    refine Tr.region_f (fun _ => false) ?_
    refine W.q rfl rfl rfl rfl (by decide) (Yd.as rfl .c) ?_
    refine W.end ?_
    refine NX.sub (env' := [(0, _), (1, _), (6, _), (9, _)]) ⟨rfl, rfl, rfl, rfl, trivial⟩ ?_
    refine NX.then ?_
    refine Tr.seq ?_
    refine Tr.seq ?_
    refine Tr.region_f (fun _ => false) ?_
    refine W.q rfl rfl rfl rfl (by decide) (Yd.mv rfl (.t rfl)) ?_
    refine W.q rfl rfl rfl rfl (by decide) (Yd.lenR hm_0 rfl Try.underlying23 (.t rfl)) ?_
    refine W.q rfl rfl rfl rfl (by decide) (Yd.mv rfl .c) ?_
    refine W.end ?_
    refine NX.sub (env' := [(0, _), (1, _), (6, _), (9, _), (29, _), (30, _), (31, _)]) ⟨rfl, rfl, rfl, rfl, rfl, rfl, rfl, trivial⟩ ?_
    refine NX.then ?_
    refine Tr.join (S := fun env x => ∃ more_30 : Bool, ∃ l31 : List (List (BitVec 32)), ∃ v32 : Value, ∃ us33 : List Value, us33.length = l31.length ∧ env = [(6, v32), (9, .bool more_30)] ∧ x = ⟨m, hown 38 1 v32 l31.length us33 :: hrows 33 1 encU us33 l31 :: l⟩ ∧ rights_round_k35 more_30 l31 = some r) ?_ (fun hk36 => ?_)
    · rintro _ _ ⟨more_30, l31, v32, us33, hw34, rfl, rfl, hr⟩
      unfold rights_round_k35 at hr
      try dsimp only at hr
      refine NX.then ?_
      refine Tr.seq ?_
      refine Tr.region_f (fun _ => false) ?_
      refine W.q rfl rfl rfl rfl (by decide) (Yd.mv rfl (.t rfl)) ?_
      refine W.q rfl rfl rfl rfl (by decide) (Yd.mv rfl (.t rfl)) ?_
      refine W.q rfl rfl rfl rfl (by decide) (Yd.as rfl (.t rfl)) ?_
      refine W.q rfl rfl rfl rfl (by decide) (Yd.as rfl (.t rfl)) ?_
      refine W.end ?_
      refine NX.sub (env' := [(4, _), (5, _)]) ⟨rfl, rfl, trivial⟩ ?_
      refine NX.then ?_
      refine Tr.ret' ?_
      refine res2 rfl rfl rfl ?_
      intro w hc
      cases hr
      obtain ⟨m37, hsm37, hu38, hc⟩ := cX_freezeM (enc := encU) (n := 1) (p := 0) (p2 := 0) (fun _ => rfl) hc rfl rfl
      have hm_0 := hm_0.mono hsm37
      have hchains_1 := hchains_1.mono hsm37
      exact ⟨_, _, rfl, hsm37, hu38, hc⟩
    have hlen39 := (hm_0).2.1
    refine Tr.block ?_
    refine Tr.sub (env' := [(0, _), (1, _), (6, _), (9, _), (29, _), (30, _), (31, _)]) ⟨rfl, rfl, rfl, rfl, rfl, rfl, rfl, trivial⟩ ?_
    refine Tr.loop (S := fun n (z : Int × Bool × (List (List (BitVec 32)))) env x => match z with | (t_40, more_24, l26) => ∃ v27 : Value, ∃ us28 : List Value, us28.length = l26.length ∧ env = [(0, um_0), (1, uchains_1), (6, v27), (9, .bool more_24), (29, um_0), (30, .int .i64 ((m_0.length : Int))), (31, .int .i64 t_40)] ∧ x = ⟨m, hown 38 1 v27 l26.length us28 :: hrows 33 1 encU us28 l26 :: l⟩ ∧ n = ((m_0.length : Int) - t_40).toNat ∧ 0 ≤ t_40 ∧ forK (σ := Bool × (List (List (BitVec 32)))) (fun i s nx_ => rights_round_b41 m_0 chains_1 i s.1 s.2 nx_) (fun s => rights_round_k35 s.1 s.2) n t_40 (more_24, l26) = some r) _ ((0 : Int), false, l12) ⟨_, _, hw15, rfl, rfl, rfl, (by omega), hr⟩ ?_
    rintro n43 ⟨t_40, more_24, l26⟩ env x ⟨v27, us28, hw29, rfl, rfl, hnt_40, h0t_40, hr⟩
    cases n43 with
    | zero =>
      simp only [forK] at hr
      refine Tr.seq ?_
      refine Tr.region_f (fun _ => false) ?_
      refine W.q rfl rfl rfl rfl (by decide) (Yd.lss rfl (.t rfl) (.t rfl)) ?_
      refine W.end ?_
      refine NX.sub (env' := [(0, _), (1, _), (6, _), (9, _), (29, _), (30, _), (31, _), (32, _)]) ⟨rfl, rfl, rfl, rfl, rfl, rfl, rfl, rfl, trivial⟩ ?_
      refine NX.then ?_
      refine Tr.seq ?_
      refine Tr.cond (.t rfl) (fun hb => ?_) (fun hb => ?_)
      · exact absurd (hb.symm.trans (fr_end hnt_40)) (by decide)
      ·
        refine Tr.exit' (EX.then (EX.then (EX.block ?_)))
        refine NX.sub (env' := [(6, _), (9, _)]) ⟨rfl, rfl, trivial⟩ ?_
        exact hk36 _ _ ⟨_, _, _, _, hw29, rfl, rfl, hr⟩
    | succ n43 =>
      obtain ⟨nx42, hnx42, hr⟩ := forK_succ hr
      try dsimp only at hr
      unfold rights_round_b41 at hr
      try dsimp only at hr
      have hltt_40 := fr_bnd hnt_40
      refine Tr.seq ?_
      refine Tr.region_f (fun _ => false) ?_
      refine W.q rfl rfl rfl rfl (by decide) (Yd.lss rfl (.t rfl) (.t rfl)) ?_
      refine W.end ?_
      refine NX.sub (env' := [(0, _), (1, _), (6, _), (9, _), (29, _), (30, _), (31, _), (32, _)]) ⟨rfl, rfl, rfl, rfl, rfl, rfl, rfl, rfl, trivial⟩ ?_
      refine NX.then ?_
      refine Tr.seq ?_
      refine Tr.cond (.t rfl) (fun hb => ?_) (fun hb => ?_)
      rotate_left
      · exact absurd (hb.symm.trans (fr_go hnt_40)) (by decide)
      ·
        refine Tr.skip' ?_
        refine NX.then ?_
        refine Tr.seq ?_
        refine Tr.block ?_
        refine Tr.seq ?_
        obtain ⟨y44, hy45, hr⟩ := bind_some hr
        refine Tr.region_f (fun _ => false) ?_
        refine W.q rfl rfl rfl rfl (by decide) (Yd.mv rfl (.t rfl)) ?_
        refine W.q rfl rfl rfl rfl (by decide) (Yd.idxR hm_0 hy45 rfl Try.underlying23 SZ38 (.t rfl) (.t rfl)) ?_
        obtain ⟨u46, hu47, hat48⟩ := hm_0.row hy45
        refine W.q rfl rfl rfl rfl (by decide) (Yd.ldRow hat48 (.refl _) rfl ON38 (.t rfl)) ?_
        refine W.q rfl rfl rfl rfl (by decide) (Yd.as rfl (.t rfl)) ?_
        refine W.q rfl rfl rfl rfl (by decide) (Yd.as rfl (.t rfl)) ?_
        refine W.end ?_
        refine NX.sub (env' := [(0, _), (1, _), (6, _), (9, _), (29, _), (30, _), (31, _), (10, _), (11, _)]) ⟨rfl, rfl, rfl, rfl, rfl, rfl, rfl, rfl, rfl, trivial⟩ ?_
        refine NX.then ?_
        refine Tr.seq ?_
        refine Tr.region_f (fun _ => false) ?_
        refine W.q rfl rfl rfl rfl (by decide) (Yd.mv rfl (.t rfl)) ?_
        refine W.q rfl rfl rfl rfl (by decide) (Yd.lenR hu47 rfl Try.underlying38 (.t rfl)) ?_
        refine W.q rfl rfl rfl rfl (by decide) (Yd.mv rfl .c) ?_
        refine W.end ?_
        refine NX.sub (env' := [(0, _), (1, _), (6, _), (9, _), (29, _), (30, _), (31, _), (10, _), (11, _), (36, _), (37, _), (38, _)]) ⟨rfl, rfl, rfl, rfl, rfl, rfl, rfl, rfl, rfl, rfl, rfl, rfl, trivial⟩ ?_
        refine NX.then ?_
        refine Tr.join (S := fun env x => ∃ more_61 : Bool, ∃ l62 : List (List (BitVec 32)), ∃ v63 : Value, ∃ us64 : List Value, us64.length = l62.length ∧ env = [(0, um_0), (1, uchains_1), (6, v63), (9, .bool more_61), (29, um_0), (30, .int .i64 ((m_0.length : Int))), (31, .int .i64 t_40)] ∧ x = ⟨m, hown 38 1 v63 l62.length us64 :: hrows 33 1 encU us64 l62 :: l⟩ ∧ rights_round_k66 nx42 more_61 l62 = some r) ?_ (fun hk67 => ?_)
        · rintro _ _ ⟨more_61, l62, v63, us64, hw65, rfl, rfl, hr⟩
          unfold rights_round_k66 at hr
          try dsimp only at hr
          refine NX.block ?_
          refine NX.then ?_
          refine Tr.region_f (fun _ => false) ?_
          refine W.q rfl rfl rfl rfl (by decide) (Yd.add rfl (.t rfl) .c) ?_
          refine W.q rfl rfl rfl rfl (by decide) (Yd.mv rfl (.t rfl)) ?_
          refine W.end ?_
          refine NX.sub (env' := [(0, _), (1, _), (6, _), (9, _), (29, _), (30, _), (31, _)]) ⟨rfl, rfl, rfl, rfl, rfl, rfl, rfl, trivial⟩ ?_
          refine NX.sub (env' := [(0, _), (1, _), (6, _), (9, _), (29, _), (30, _), (31, _)]) ⟨rfl, rfl, rfl, rfl, rfl, rfl, rfl, trivial⟩ ?_
          have hw := w64_id (n := t_40 + 1) (by omega) (by omega)
          exact NX.again n43 (t_40 + 1, more_61, l62) (Nat.lt_succ_self _) ⟨_, _, hw65, (by rw [hw] <;> rfl), rfl, (fr_dec hnt_40), (by omega), ((hnx42 _).symm.trans hr)⟩
        have hlen68 := (hu47).2.1
        refine Tr.block ?_
        refine Tr.sub (env' := [(0, _), (1, _), (6, _), (9, _), (10, _), (11, _), (29, _), (30, _), (31, _), (36, _), (37, _), (38, _)]) ⟨rfl, rfl, rfl, rfl, rfl, rfl, rfl, rfl, rfl, rfl, rfl, rfl, trivial⟩ ?_
        refine Tr.loop (S := fun n (z : Int × Bool × (List (List (BitVec 32)))) env x => match z with | (t_69, more_55, l57) => ∃ v58 : Value, ∃ us59 : List Value, us59.length = l57.length ∧ env = [(0, um_0), (1, uchains_1), (6, v58), (9, .bool more_55), (10, .int .i64 t_40), (11, u46), (29, um_0), (30, .int .i64 ((m_0.length : Int))), (31, .int .i64 t_40), (36, u46), (37, .int .i64 ((y44.length : Int))), (38, .int .i64 t_69)] ∧ x = ⟨m, hown 38 1 v58 l57.length us59 :: hrows 33 1 encU us59 l57 :: l⟩ ∧ n = ((y44.length : Int) - t_69).toNat ∧ 0 ≤ t_69 ∧ forK (σ := Bool × (List (List (BitVec 32)))) (fun i s nx_ => rights_round_b70 m_0 chains_1 t_40 y44 i s.1 s.2 nx_) (fun s => rights_round_k66 nx42 s.1 s.2) n t_69 (more_55, l57) = some r) _ ((0 : Int), more_24, l26) ⟨_, _, hw29, rfl, rfl, rfl, (by omega), hr⟩ ?_
        rintro n72 ⟨t_69, more_55, l57⟩ env x ⟨v58, us59, hw60, rfl, rfl, hnt_69, h0t_69, hr⟩
        cases n72 with
        | zero =>
          simp only [forK] at hr
          refine Tr.seq ?_
          refine Tr.region_f (fun _ => false) ?_
          refine W.q rfl rfl rfl rfl (by decide) (Yd.lss rfl (.t rfl) (.t rfl)) ?_
          refine W.end ?_
          refine NX.sub (env' := [(0, _), (1, _), (6, _), (9, _), (10, _), (11, _), (29, _), (30, _), (31, _), (36, _), (37, _), (38, _), (39, _)]) ⟨rfl, rfl, rfl, rfl, rfl, rfl, rfl, rfl, rfl, rfl, rfl, rfl, rfl, trivial⟩ ?_
          refine NX.then ?_
          refine Tr.seq ?_
          refine Tr.cond (.t rfl) (fun hb => ?_) (fun hb => ?_)
          · exact absurd (hb.symm.trans (fr_end hnt_69)) (by decide)
          ·
            refine Tr.exit' (EX.then (EX.then (EX.block ?_)))
            refine NX.sub (env' := [(0, _), (1, _), (6, _), (9, _), (29, _), (30, _), (31, _)]) ⟨rfl, rfl, rfl, rfl, rfl, rfl, rfl, trivial⟩ ?_
            exact hk67 _ _ ⟨_, _, _, _, hw60, rfl, rfl, hr⟩
        | succ n72 =>
          obtain ⟨nx71, hnx71, hr⟩ := forK_succ hr
          try dsimp only at hr
          unfold rights_round_b70 at hr
          try dsimp only at hr
          have hltt_69 := fr_bnd hnt_69
          refine Tr.seq ?_
          refine Tr.region_f (fun _ => false) ?_
          refine W.q rfl rfl rfl rfl (by decide) (Yd.lss rfl (.t rfl) (.t rfl)) ?_
          refine W.end ?_
          refine NX.sub (env' := [(0, _), (1, _), (6, _), (9, _), (10, _), (11, _), (29, _), (30, _), (31, _), (36, _), (37, _), (38, _), (39, _)]) ⟨rfl, rfl, rfl, rfl, rfl, rfl, rfl, rfl, rfl, rfl, rfl, rfl, rfl, trivial⟩ ?_
          refine NX.then ?_
          refine Tr.seq ?_
          refine Tr.cond (.t rfl) (fun hb => ?_) (fun hb => ?_)
          rotate_left
          · exact absurd (hb.symm.trans (fr_go hnt_69)) (by decide)
          ·
            refine Tr.skip' ?_
            refine NX.then ?_
            refine Tr.seq ?_
            refine Tr.block ?_
            refine Tr.seq ?_
            obtain ⟨y73, hy74, hr⟩ := bind_some hr
            refine Tr.region_f (fun _ => false) ?_
            refine W.q rfl rfl rfl rfl (by decide) (Yd.mv rfl (.t rfl)) ?_
            refine W.q rfl rfl rfl rfl (by decide) (Yd.idxR hu47 hy74 rfl Try.underlying38 SZ33 (.t rfl) (.t rfl)) ?_
            refine W.q rfl rfl rfl rfl (by decide) (Yd.ldF hu47 (.refl _) hy74 rfl rfl ON33 (.t rfl)) ?_
            refine W.q rfl rfl rfl rfl (by decide) (Yd.as rfl (.t rfl)) ?_
            refine W.q rfl rfl rfl rfl (by decide) (Yd.as rfl (.t rfl)) ?_
            refine W.end ?_
            refine NX.sub (env' := [(0, _), (1, _), (6, _), (9, _), (10, _), (11, _), (29, _), (30, _), (31, _), (36, _), (37, _), (38, _), (12, _), (13, _)]) ⟨rfl, rfl, rfl, rfl, rfl, rfl, rfl, rfl, rfl, rfl, rfl, rfl, rfl, rfl, trivial⟩ ?_
            refine NX.then ?_
            refine Tr.seq ?_
            refine Tr.region_f (fun _ => false) ?_
            refine W.q rfl rfl rfl rfl (by decide) (Yd.mv rfl (.t rfl)) ?_
            refine W.q rfl rfl rfl rfl (by decide) (Yd.lenR hu47 rfl Try.underlying38 (.t rfl)) ?_
            refine W.q rfl rfl rfl rfl (by decide) (Yd.mv rfl .c) ?_
            refine W.end ?_
            refine NX.sub (env' := [(0, _), (1, _), (6, _), (9, _), (10, _), (11, _), (29, _), (30, _), (31, _), (36, _), (37, _), (38, _), (12, _), (13, _), (44, _), (45, _)]) ⟨rfl, rfl, rfl, rfl, rfl, rfl, rfl, rfl, rfl, rfl, rfl, rfl, rfl, rfl, rfl, rfl, trivial⟩ ?_
            refine NX.then ?_
            refine Tr.join (S := fun env x => ∃ more_87 : Bool, ∃ l88 : List (List (BitVec 32)), ∃ v89 : Value, ∃ us90 : List Value, us90.length = l88.length ∧ env = [(0, um_0), (1, uchains_1), (6, v89), (9, .bool more_87), (10, .int .i64 t_40), (11, u46), (29, um_0), (30, .int .i64 ((m_0.length : Int))), (31, .int .i64 t_40), (36, u46), (37, .int .i64 ((y44.length : Int))), (38, .int .i64 t_69)] ∧ x = ⟨m, hown 38 1 v89 l88.length us90 :: hrows 33 1 encU us90 l88 :: l⟩ ∧ rights_round_k92 nx71 more_87 l88 = some r) ?_ (fun hk93 => ?_)
            · rintro _ _ ⟨more_87, l88, v89, us90, hw91, rfl, rfl, hr⟩
              unfold rights_round_k92 at hr
              try dsimp only at hr
              refine NX.block ?_
              refine NX.then ?_
              refine Tr.region_f (fun _ => false) ?_
              refine W.q rfl rfl rfl rfl (by decide) (Yd.add rfl (.t rfl) .c) ?_
              refine W.q rfl rfl rfl rfl (by decide) (Yd.mv rfl (.t rfl)) ?_
              refine W.end ?_
              refine NX.sub (env' := [(0, _), (1, _), (6, _), (9, _), (10, _), (11, _), (29, _), (30, _), (31, _), (36, _), (37, _), (38, _)]) ⟨rfl, rfl, rfl, rfl, rfl, rfl, rfl, rfl, rfl, rfl, rfl, rfl, trivial⟩ ?_
              refine NX.sub (env' := [(0, _), (1, _), (6, _), (9, _), (10, _), (11, _), (29, _), (30, _), (31, _), (36, _), (37, _), (38, _)]) ⟨rfl, rfl, rfl, rfl, rfl, rfl, rfl, rfl, rfl, rfl, rfl, rfl, trivial⟩ ?_
              have hw := w64_id (n := t_69 + 1) (by omega) (by omega)
              exact NX.again n72 (t_69 + 1, more_87, l88) (Nat.lt_succ_self _) ⟨_, _, hw91, (by rw [hw] <;> rfl), rfl, (fr_dec hnt_69), (by omega), ((hnx71 _).symm.trans hr)⟩
            have hlen94 := (hu47).2.1
            refine Tr.block ?_
            refine Tr.sub (env' := [(0, _), (1, _), (6, _), (9, _), (10, _), (11, _), (12, _), (13, _), (29, _), (30, _), (31, _), (36, _), (37, _), (38, _), (44, _), (45, _)]) ⟨rfl, rfl, rfl, rfl, rfl, rfl, rfl, rfl, rfl, rfl, rfl, rfl, rfl, rfl, rfl, rfl, trivial⟩ ?_
            refine Tr.loop (S := fun n (z : Int × Bool × (List (List (BitVec 32)))) env x => match z with | (t_95, more_81, l83) => ∃ v84 : Value, ∃ us85 : List Value, us85.length = l83.length ∧ env = [(0, um_0), (1, uchains_1), (6, v84), (9, .bool more_81), (10, .int .i64 t_40), (11, u46), (12, .int .i64 t_69), (13, .int .u32 (y73.toNat : Int)), (29, um_0), (30, .int .i64 ((m_0.length : Int))), (31, .int .i64 t_40), (36, u46), (37, .int .i64 ((y44.length : Int))), (38, .int .i64 t_69), (44, .int .i64 ((y44.length : Int))), (45, .int .i64 t_95)] ∧ x = ⟨m, hown 38 1 v84 l83.length us85 :: hrows 33 1 encU us85 l83 :: l⟩ ∧ n = ((y44.length : Int) - t_95).toNat ∧ 0 ≤ t_95 ∧ forK (σ := Bool × (List (List (BitVec 32)))) (fun i s nx_ => rights_round_b96 m_0 chains_1 t_40 t_69 y73 i s.1 s.2 nx_) (fun s => rights_round_k92 nx71 s.1 s.2) n t_95 (more_81, l83) = some r) _ ((0 : Int), more_55, l57) ⟨_, _, hw60, rfl, rfl, rfl, (by omega), hr⟩ ?_
            rintro n98 ⟨t_95, more_81, l83⟩ env x ⟨v84, us85, hw86, rfl, rfl, hnt_95, h0t_95, hr⟩
            cases n98 with
            | zero =>
              simp only [forK] at hr
              refine Tr.seq ?_
              refine Tr.region_f (fun _ => false) ?_
              refine W.q rfl rfl rfl rfl (by decide) (Yd.lss rfl (.t rfl) (.t rfl)) ?_
              refine W.end ?_
              refine NX.sub (env' := [(0, _), (1, _), (6, _), (9, _), (10, _), (11, _), (12, _), (13, _), (29, _), (30, _), (31, _), (36, _), (37, _), (38, _), (44, _), (45, _), (46, _)]) ⟨rfl, rfl, rfl, rfl, rfl, rfl, rfl, rfl, rfl, rfl, rfl, rfl, rfl, rfl, rfl, rfl, rfl, trivial⟩ ?_
              refine NX.then ?_
              refine Tr.seq ?_
              refine Tr.cond (.t rfl) (fun hb => ?_) (fun hb => ?_)
              · exact absurd (hb.symm.trans (fr_end hnt_95)) (by decide)
              ·
                refine Tr.exit' (EX.then (EX.then (EX.block ?_)))
                refine NX.sub (env' := [(0, _), (1, _), (6, _), (9, _), (10, _), (11, _), (29, _), (30, _), (31, _), (36, _), (37, _), (38, _)]) ⟨rfl, rfl, rfl, rfl, rfl, rfl, rfl, rfl, rfl, rfl, rfl, rfl, trivial⟩ ?_
                exact hk93 _ _ ⟨_, _, _, _, hw86, rfl, rfl, hr⟩
            | succ n98 =>
              obtain ⟨nx97, hnx97, hr⟩ := forK_succ hr
              try dsimp only at hr
              unfold rights_round_b96 at hr
              try dsimp only at hr
              have hltt_95 := fr_bnd hnt_95
              refine Tr.seq ?_
              refine Tr.region_f (fun _ => false) ?_
              refine W.q rfl rfl rfl rfl (by decide) (Yd.lss rfl (.t rfl) (.t rfl)) ?_
              refine W.end ?_
              refine NX.sub (env' := [(0, _), (1, _), (6, _), (9, _), (10, _), (11, _), (12, _), (13, _), (29, _), (30, _), (31, _), (36, _), (37, _), (38, _), (44, _), (45, _), (46, _)]) ⟨rfl, rfl, rfl, rfl, rfl, rfl, rfl, rfl, rfl, rfl, rfl, rfl, rfl, rfl, rfl, rfl, rfl, trivial⟩ ?_
              refine NX.then ?_
              refine Tr.seq ?_
              refine Tr.cond (.t rfl) (fun hb => ?_) (fun hb => ?_)
              rotate_left
              · exact absurd (hb.symm.trans (fr_go hnt_95)) (by decide)
              ·
                refine Tr.skip' ?_
                refine NX.then ?_
                refine Tr.seq ?_
                refine Tr.block ?_
                refine Tr.seq ?_
                refine Tr.region_f (fun _ => false) ?_
                refine W.q rfl rfl rfl rfl (by decide) (Yd.mv rfl (.t rfl)) ?_
                refine W.q rfl rfl rfl rfl (by decide) (Yd.as rfl (.t rfl)) ?_
                refine W.end ?_
                refine NX.sub (env' := [(0, _), (1, _), (6, _), (9, _), (10, _), (11, _), (12, _), (13, _), (29, _), (30, _), (31, _), (36, _), (37, _), (38, _), (44, _), (45, _), (14, _)]) ⟨rfl, rfl, rfl, rfl, rfl, rfl, rfl, rfl, rfl, rfl, rfl, rfl, rfl, rfl, rfl, rfl, rfl, trivial⟩ ?_
                refine NX.then ?_
                refine Tr.seq ?_
                refine Tr.region_f (fun _ => false) ?_
                refine W.q rfl rfl rfl rfl (by decide) (Yd.mv rfl (.t rfl)) ?_
                refine W.q rfl rfl rfl rfl (by decide) (Yd.lenR hchains_1 rfl Try.underlying24 (.t rfl)) ?_
                refine W.q rfl rfl rfl rfl (by decide) (Yd.mv rfl .c) ?_
                refine W.end ?_
                refine NX.sub (env' := [(0, _), (1, _), (6, _), (9, _), (10, _), (11, _), (12, _), (13, _), (29, _), (30, _), (31, _), (36, _), (37, _), (38, _), (44, _), (45, _), (14, _), (48, _), (49, _), (50, _)]) ⟨rfl, rfl, rfl, rfl, rfl, rfl, rfl, rfl, rfl, rfl, rfl, rfl, rfl, rfl, rfl, rfl, rfl, rfl, rfl, rfl, trivial⟩ ?_
                refine NX.then ?_
                refine Tr.join (S := fun env x => ∃ more_111 : Bool, ∃ l112 : List (List (BitVec 32)), ∃ v113 : Value, ∃ us114 : List Value, us114.length = l112.length ∧ env = [(0, um_0), (1, uchains_1), (6, v113), (9, .bool more_111), (10, .int .i64 t_40), (11, u46), (12, .int .i64 t_69), (13, .int .u32 (y73.toNat : Int)), (29, um_0), (30, .int .i64 ((m_0.length : Int))), (31, .int .i64 t_40), (36, u46), (37, .int .i64 ((y44.length : Int))), (38, .int .i64 t_69), (44, .int .i64 ((y44.length : Int))), (45, .int .i64 t_95)] ∧ x = ⟨m, hown 38 1 v113 l112.length us114 :: hrows 33 1 encU us114 l112 :: l⟩ ∧ rights_round_k116 nx97 more_111 l112 = some r) ?_ (fun hk117 => ?_)
                · rintro _ _ ⟨more_111, l112, v113, us114, hw115, rfl, rfl, hr⟩
                  unfold rights_round_k116 at hr
                  try dsimp only at hr
                  refine NX.block ?_
                  refine NX.then ?_
                  refine Tr.region_f (fun _ => false) ?_
                  refine W.q rfl rfl rfl rfl (by decide) (Yd.add rfl (.t rfl) .c) ?_
                  refine W.q rfl rfl rfl rfl (by decide) (Yd.mv rfl (.t rfl)) ?_
                  refine W.end ?_
                  refine NX.sub (env' := [(0, _), (1, _), (6, _), (9, _), (10, _), (11, _), (12, _), (13, _), (29, _), (30, _), (31, _), (36, _), (37, _), (38, _), (44, _), (45, _)]) ⟨rfl, rfl, rfl, rfl, rfl, rfl, rfl, rfl, rfl, rfl, rfl, rfl, rfl, rfl, rfl, rfl, trivial⟩ ?_
                  refine NX.sub (env' := [(0, _), (1, _), (6, _), (9, _), (10, _), (11, _), (12, _), (13, _), (29, _), (30, _), (31, _), (36, _), (37, _), (38, _), (44, _), (45, _)]) ⟨rfl, rfl, rfl, rfl, rfl, rfl, rfl, rfl, rfl, rfl, rfl, rfl, rfl, rfl, rfl, rfl, trivial⟩ ?_
                  have hw := w64_id (n := t_95 + 1) (by omega) (by omega)
                  exact NX.again n98 (t_95 + 1, more_111, l112) (Nat.lt_succ_self _) ⟨_, _, hw115, (by rw [hw] <;> rfl), rfl, (fr_dec hnt_95), (by omega), ((hnx97 _).symm.trans hr)⟩
                have hlen118 := (hchains_1).2.1
                refine Tr.block ?_
                refine Tr.sub (env' := [(0, _), (1, _), (6, _), (9, _), (10, _), (11, _), (12, _), (13, _), (14, _), (29, _), (30, _), (31, _), (36, _), (37, _), (38, _), (44, _), (45, _), (48, _), (49, _), (50, _)]) ⟨rfl, rfl, rfl, rfl, rfl, rfl, rfl, rfl, rfl, rfl, rfl, rfl, rfl, rfl, rfl, rfl, rfl, rfl, rfl, rfl, trivial⟩ ?_
                refine Tr.loop (S := fun n (z : Int × Bool × (List (List (BitVec 32)))) env x => match z with | (t_119, more_105, l107) => ∃ v108 : Value, ∃ us109 : List Value, us109.length = l107.length ∧ env = [(0, um_0), (1, uchains_1), (6, v108), (9, .bool more_105), (10, .int .i64 t_40), (11, u46), (12, .int .i64 t_69), (13, .int .u32 (y73.toNat : Int)), (14, .int .i64 t_95), (29, um_0), (30, .int .i64 ((m_0.length : Int))), (31, .int .i64 t_40), (36, u46), (37, .int .i64 ((y44.length : Int))), (38, .int .i64 t_69), (44, .int .i64 ((y44.length : Int))), (45, .int .i64 t_95), (48, uchains_1), (49, .int .i64 ((chains_1.length : Int))), (50, .int .i64 t_119)] ∧ x = ⟨m, hown 38 1 v108 l107.length us109 :: hrows 33 1 encU us109 l107 :: l⟩ ∧ n = ((chains_1.length : Int) - t_119).toNat ∧ 0 ≤ t_119 ∧ forK (σ := Bool × (List (List (BitVec 32)))) (fun i s nx_ => rights_round_b120 m_0 chains_1 t_40 t_69 y73 t_95 i s.1 s.2 nx_) (fun s => rights_round_k116 nx97 s.1 s.2) n t_119 (more_105, l107) = some r) _ ((0 : Int), more_81, l83) ⟨_, _, hw86, rfl, rfl, rfl, (by omega), hr⟩ ?_
                rintro n122 ⟨t_119, more_105, l107⟩ env x ⟨v108, us109, hw110, rfl, rfl, hnt_119, h0t_119, hr⟩
                cases n122 with
                | zero =>
                  simp only [forK] at hr
                  refine Tr.seq ?_
                  refine Tr.region_f (fun _ => false) ?_
                  refine W.q rfl rfl rfl rfl (by decide) (Yd.lss rfl (.t rfl) (.t rfl)) ?_
                  refine W.end ?_
                  refine NX.sub (env' := [(0, _), (1, _), (6, _), (9, _), (10, _), (11, _), (12, _), (13, _), (14, _), (29, _), (30, _), (31, _), (36, _), (37, _), (38, _), (44, _), (45, _), (48, _), (49, _), (50, _), (51, _)]) ⟨rfl, rfl, rfl, rfl, rfl, rfl, rfl, rfl, rfl, rfl, rfl, rfl, rfl, rfl, rfl, rfl, rfl, rfl, rfl, rfl, rfl, trivial⟩ ?_
                  refine NX.then ?_
                  refine Tr.seq ?_
                  refine Tr.cond (.t rfl) (fun hb => ?_) (fun hb => ?_)
                  · exact absurd (hb.symm.trans (fr_end hnt_119)) (by decide)
                  ·
                    refine Tr.exit' (EX.then (EX.then (EX.block ?_)))
                    refine NX.sub (env' := [(0, _), (1, _), (6, _), (9, _), (10, _), (11, _), (12, _), (13, _), (29, _), (30, _), (31, _), (36, _), (37, _), (38, _), (44, _), (45, _)]) ⟨rfl, rfl, rfl, rfl, rfl, rfl, rfl, rfl, rfl, rfl, rfl, rfl, rfl, rfl, rfl, rfl, trivial⟩ ?_
                    exact hk117 _ _ ⟨_, _, _, _, hw110, rfl, rfl, hr⟩
                | succ n122 =>
                  obtain ⟨nx121, hnx121, hr⟩ := forK_succ hr
                  try dsimp only at hr
                  unfold rights_round_b120 at hr
                  try dsimp only at hr
                  have hltt_119 := fr_bnd hnt_119
                  refine Tr.seq ?_
                  refine Tr.region_f (fun _ => false) ?_
                  refine W.q rfl rfl rfl rfl (by decide) (Yd.lss rfl (.t rfl) (.t rfl)) ?_
                  refine W.end ?_
                  refine NX.sub (env' := [(0, _), (1, _), (6, _), (9, _), (10, _), (11, _), (12, _), (13, _), (14, _), (29, _), (30, _), (31, _), (36, _), (37, _), (38, _), (44, _), (45, _), (48, _), (49, _), (50, _), (51, _)]) ⟨rfl, rfl, rfl, rfl, rfl, rfl, rfl, rfl, rfl, rfl, rfl, rfl, rfl, rfl, rfl, rfl, rfl, rfl, rfl, rfl, rfl, trivial⟩ ?_
                  refine NX.then ?_
                  refine Tr.seq ?_
                  refine Tr.cond (.t rfl) (fun hb => ?_) (fun hb => ?_)
                  rotate_left
                  · exact absurd (hb.symm.trans (fr_go hnt_119)) (by decide)
                  ·
                    refine Tr.skip' ?_
                    refine NX.then ?_
                    refine Tr.seq ?_
                    refine Tr.block ?_
                    refine Tr.seq ?_
                    obtain ⟨y123, hy124, hr⟩ := bind_some hr
                    refine Tr.region_f (fun i => Nat.beq i 2 || Nat.beq i 3) ?_
                    refine W.q rfl rfl rfl rfl (by decide) (Yd.idxR hchains_1 hy124 rfl Try.underlying24 SZ94 (.t rfl) (.t rfl)) ?_
                    refine W.q rfl rfl rfl rfl (by decide) (Yd.ldFs (us := [_, _, _]) hchains_1 (.refl _) hy124 rfl rfl ON94 US94 SZ94 (.t rfl)) ?_
                    refine W.e rfl rfl rfl rfl (by decide) (Ef.al rfl ZR94 rfl) ?_
                    rintro _ _ ⟨b125, rfl, rfl⟩
                    refine ⟨.inl rfl, ?_⟩
                    refine W.cast (m' := m) (l' := hcells b125 [_, _, _] 94 :: hown 38 1 v108 _ _ :: hrows 33 1 encU _ _ :: l) rfl rfl ?_
                    refine W.s rfl rfl rfl rfl (Ef.stB (pos := 0) (us := [_, _, _]) (cs' := [_, _, _]) rfl rfl (.t rfl) (.t rfl) SZ94 rfl rfl rfl (Nat.le_of_ble_eq_true rfl) rfl) ?_
                    rintro _ _ ⟨rfl, rfl⟩
                    refine ⟨.inl rfl, ?_⟩
                    refine W.cast (m' := m) (l' := hcells b125 [_, _, _] 94 :: hown 38 1 v108 _ _ :: hrows 33 1 encU _ _ :: l) rfl rfl ?_
                    refine W.end ?_
                    refine NX.sub (env' := [(0, _), (1, _), (6, _), (9, _), (10, _), (11, _), (12, _), (13, _), (14, _), (29, _), (30, _), (31, _), (36, _), (37, _), (38, _), (44, _), (45, _), (48, _), (49, _), (50, _), (16, _)]) ⟨rfl, rfl, rfl, rfl, rfl, rfl, rfl, rfl, rfl, rfl, rfl, rfl, rfl, rfl, rfl, rfl, rfl, rfl, rfl, rfl, rfl, trivial⟩ ?_
                    refine NX.then ?_
                    refine Tr.seq ?_
                    obtain ⟨ha127, hr⟩ := guard_some hr
                    obtain ⟨ha131, hr⟩ := guard_some hr
                    obtain ⟨ha132, hr⟩ := guard_some hr
                    obtain ⟨ha135, hr⟩ := guard_some hr
                    refine Tr.region_x (fun _ => false) (fun _ => false) (Ord.of [0, 1, 2, 3, 4, 5, 6, 7, 8, 9, 10, 11, 12, 13, 14, 15, 16, 17, 18, 19, 20, 21, 22, 23, 24, 25, 26, 27, 28, 29, 30]) FM (by kernel_rfl) ?_
                    refine W.q rfl rfl rfl rfl (by decide) (Yd.fldB rfl Try.underlying94 rfl SZ33 rfl (.t rfl)) ?_
                    refine W.q rfl rfl rfl rfl (by decide) (Yd.ldB (pos := 0) rfl rfl rfl ON33 (.t rfl)) ?_
                    refine W.q rfl rfl rfl rfl (by decide) (Yd.mv rfl (.t rfl)) ?_
                    refine W.q rfl rfl rfl rfl (by decide) (Yd.andnU (a := y123.a) (b := y73) rfl (.t rfl) (.t rfl)) ?_
                    refine W.q rfl rfl rfl rfl (by decide) (Yd.eqlU (a := (y123.a &&& ~~~y73)) (b := 0#32) rfl (.t rfl) .c) ?_
                    refine W.q rfl rfl rfl rfl (by decide) (Yd.mv rfl (.t rfl)) ?_
                    refine W.g rfl rfl rfl rfl rfl (.t rfl _) rfl (by decide) (fun hG => Yd.fldB rfl Try.underlying94 rfl SZ33 rfl (.t rfl)) ?_
                    refine W.g rfl rfl rfl rfl rfl (.t rfl _) rfl (by decide) (fun hG => Yd.ldB (pos := 0) rfl rfl rfl ON33 (.g rfl hG)) ?_
                    refine W.g rfl rfl rfl rfl rfl (.t rfl _) rfl (by decide) (fun hG => Yd.mv rfl (.t rfl)) ?_
                    refine W.g rfl rfl rfl rfl rfl (.t rfl _) rfl (by decide) (fun hG => Yd.mv rfl (.t rfl)) ?_
                    refine W.g rfl rfl rfl rfl rfl (.t rfl _) rfl (by decide) (fun hG => Yd.idxR hm_0 (gd_get (d := []) ha127 hG) rfl Try.underlying23 SZ38 (.g rfl hG) (.g rfl hG)) ?_
                    obtain ⟨u128, hu129⟩ := RS.rowD hm_0 (i := t_69)
                    refine W.g rfl rfl rfl rfl rfl (.t rfl _) rfl (by decide) (fun hG => Yd.ldRow (hu129 _ (gd_get (d := []) ha127 hG)).2 (.refl _) rfl ON38 (.g rfl hG)) ?_
                    refine W.g rfl rfl rfl rfl rfl (.t rfl _) rfl (by decide) (fun hG => Yd.mv rfl (.t rfl)) ?_
                    refine W.g rfl rfl rfl rfl rfl (.t rfl _) rfl (by decide) (fun hG => Yd.idxR (hu129 _ (gd_get (d := []) ha127 hG)).1 (gd_get (d := (0#32)) ha131 hG) rfl Try.underlying38 SZ33 (.g rfl hG) (.g rfl hG)) ?_
                    refine W.g rfl rfl rfl rfl rfl (.t rfl _) rfl (by decide) (fun hG => Yd.ldF (hu129 _ (gd_get (d := []) ha127 hG)).1 (.refl _) (gd_get (d := (0#32)) ha131 hG) rfl rfl ON33 (.g rfl hG)) ?_
                    refine W.g rfl rfl rfl rfl rfl (.t rfl _) rfl (by decide) (fun hG => Yd.andnU (a := y123.b) (b := ((geti (((geti m_0 t_69).getD [])) t_95).getD (0#32))) rfl (.g rfl hG) (.g rfl hG)) ?_
                    refine W.g rfl rfl rfl rfl rfl (.t rfl _) rfl (by decide) (fun hG => Yd.eqlU (a := (y123.b &&& ~~~((geti (((geti m_0 t_69).getD [])) t_95).getD (0#32)))) (b := 0#32) rfl (.g rfl hG) .c) ?_
                    refine W.q rfl rfl rfl rfl (by decide) (Yd.and rfl (.t rfl) .c rfl rfl) ?_
                    refine W.q rfl rfl rfl rfl (by decide) (Yd.mv rfl (.t rfl)) ?_
                    refine W.g rfl rfl rfl rfl rfl (.t rfl _) rfl (by decide) (fun hG => Yd.fldB rfl Try.underlying94 rfl SZ33 rfl (.t rfl)) ?_
                    refine W.g rfl rfl rfl rfl rfl (.t rfl _) rfl (by decide) (fun hG => Yd.ldB (pos := 0) rfl rfl rfl ON33 (.g rfl hG)) ?_
                    refine W.g rfl rfl rfl rfl rfl (.t rfl _) rfl (by decide) (fun hG => Yd.mv rfl (.t rfl)) ?_
                    refine W.g rfl rfl rfl rfl rfl (.t rfl _) rfl (by decide) (fun hG => Yd.mv rfl (.t rfl)) ?_
                    refine W.g rfl rfl rfl rfl rfl (.t rfl _) rfl (by decide) (fun hG => Yd.idxO (pos := 1) (xs := l107) rfl (gd_get (d := []) ha132 hG) rfl Try.underlying23 SZ38 (.g rfl hG) (.g rfl hG)) ?_
                    obtain ⟨u133, hu134⟩ := us_getD hw110 (i := t_40)
                    refine W.g rfl rfl rfl rfl rfl (.t rfl _) rfl (by decide) (fun hG => Yd.ldU (pos := 1) rfl (hu134 _ (gd_get (d := []) ha132 hG)) rfl ON38 (.g rfl hG)) ?_
                    refine W.g rfl rfl rfl rfl rfl (.t rfl _) rfl (by decide) (fun hG => Yd.mv rfl (.t rfl)) ?_
                    refine W.g rfl rfl rfl rfl rfl (.t rfl _) rfl (by decide) (fun hG => Yd.idxM (pos := 2) rfl (hu134 _ (gd_get (d := []) ha132 hG)) (gd_get (d := []) ha132 hG) (gd_get (d := (0#32)) ha135 hG) rfl Try.underlying38 SZ33 (.g rfl hG) (.g rfl hG)) ?_
                    refine W.g rfl rfl rfl rfl rfl (.t rfl _) rfl (by decide) (fun hG => Yd.ldM (enc := encU) (n := 1) (pos := 2) (fun _ => rfl) rfl (hu134 _ (gd_get (d := []) ha132 hG)) (gd_get (d := []) ha132 hG) (gd_get (d := (0#32)) ha135 hG) rfl rfl ON33 (.g rfl hG)) ?_
                    refine W.g rfl rfl rfl rfl rfl (.t rfl _) rfl (by decide) (fun hG => Yd.andnU (a := y123.c) (b := ((geti (((geti l107 t_40).getD [])) t_95).getD (0#32))) rfl (.g rfl hG) (.g rfl hG)) ?_
                    refine W.g rfl rfl rfl rfl rfl (.t rfl _) rfl (by decide) (fun hG => Yd.neqU (a := (y123.c &&& ~~~((geti (((geti l107 t_40).getD [])) t_95).getD (0#32)))) (b := 0#32) rfl (.g rfl hG) .c) ?_
                    refine W.q rfl rfl rfl rfl (by decide) (Yd.and rfl (.t rfl) .c rfl rfl) ?_
                    refine W.end ?_
                    refine NX.sub (env' := [(0, _), (1, _), (6, _), (9, _), (10, _), (11, _), (12, _), (13, _), (14, _), (29, _), (30, _), (31, _), (36, _), (37, _), (38, _), (44, _), (45, _), (48, _), (49, _), (50, _), (16, _), (84, _)]) ⟨rfl, rfl, rfl, rfl, rfl, rfl, rfl, rfl, rfl, rfl, rfl, rfl, rfl, rfl, rfl, rfl, rfl, rfl, rfl, rfl, rfl, rfl, trivial⟩ ?_
                    refine NX.then ?_
                    refine Tr.cond (.t rfl) (fun hb => ?_) (fun hb => ?_)
                    · have hr := cond_t hb hr
                      refine Tr.seq ?_
                      obtain ⟨y136, hy137, hr⟩ := bind_some hr
                      obtain ⟨y140, hy141, hr⟩ := bind_some hr
                      refine Tr.region_x (fun i => Nat.beq i 11) (fun i => Nat.beq i 11) (Ord.of [0, 1, 2, 3, 4, 5, 6, 7, 8, 9, 10, 11]) FM (by kernel_rfl) ?_
                      refine W.q rfl rfl rfl rfl (by decide) (Yd.mv rfl (.t rfl)) ?_
                      refine W.q rfl rfl rfl rfl (by decide) (Yd.mv rfl (.t rfl)) ?_
                      refine W.q rfl rfl rfl rfl (by decide) (Yd.idxO (pos := 1) (xs := l107) rfl hy137 rfl Try.underlying23 SZ38 (.t rfl) (.t rfl)) ?_
                      obtain ⟨u138, hu139⟩ := us_get hw110 hy137
                      refine W.q rfl rfl rfl rfl (by decide) (Yd.ldU (pos := 1) rfl hu139 rfl ON38 (.t rfl)) ?_
                      refine W.q rfl rfl rfl rfl (by decide) (Yd.mv rfl (.t rfl)) ?_
                      refine W.q rfl rfl rfl rfl (by decide) (Yd.idxM (pos := 2) rfl hu139 hy137 hy141 rfl Try.underlying38 SZ33 (.t rfl) (.t rfl)) ?_
                      refine W.q rfl rfl rfl rfl (by decide) (Yd.ldM (enc := encU) (n := 1) (pos := 2) (fun _ => rfl) rfl hu139 hy137 hy141 rfl rfl ON33 (.t rfl)) ?_
                      refine W.q rfl rfl rfl rfl (by decide) (Yd.fldB rfl Try.underlying94 rfl SZ33 rfl (.t rfl)) ?_
                      refine W.q rfl rfl rfl rfl (by decide) (Yd.ldB (pos := 0) rfl rfl rfl ON33 (.t rfl)) ?_
                      refine W.q rfl rfl rfl rfl (by decide) (Yd.orU (a := y140) (b := y123.c) rfl (.t rfl) (.t rfl)) ?_
                      refine W.q rfl rfl rfl rfl (by decide) (Yd.idxM (pos := 2) rfl hu139 hy137 hy141 rfl Try.underlying38 SZ33 (.t rfl) (.t rfl)) ?_
                      refine W.s rfl rfl rfl rfl (Ef.stM (enc := encU) (n := 1) (pos0 := 1) (pos := 2) (y := (y140 ||| y123.c)) (us' := [_]) (fun _ => rfl) rfl rfl hu139 hy137 hy141 rfl (.t rfl) (.t rfl) SZ33 rfl rfl rfl (by decide)) ?_
                      rintro _ _ ⟨rfl, rfl⟩
                      refine ⟨.inl rfl, ?_⟩
                      refine W.cast (m' := m) (l' := hcells b125 [_, _, _] 94 :: hown 38 1 v108 _ _ :: hrows 33 1 encU _ _ :: l) rfl rfl ?_
                      refine W.end ?_
                      refine NX.sub (env' := [(0, _), (1, _), (6, _), (10, _), (11, _), (12, _), (13, _), (14, _), (29, _), (30, _), (31, _), (36, _), (37, _), (38, _), (44, _), (45, _), (48, _), (49, _), (50, _)]) ⟨rfl, rfl, rfl, rfl, rfl, rfl, rfl, rfl, rfl, rfl, rfl, rfl, rfl, rfl, rfl, rfl, rfl, rfl, rfl, trivial⟩ ?_
                      refine NX.drop (l' := hown 38 1 v108 _ _ :: hrows 33 1 encU _ _ :: l) (.cons _ (.cons_cons _ (.cons_cons _ (.refl _)))) ?_
                      refine NX.then ?_
                      refine Tr.region_f (fun _ => false) ?_
                      refine W.q rfl rfl rfl rfl (by decide) (Yd.as rfl .c) ?_
                      refine W.end ?_
                      refine NX.sub (env' := [(0, _), (1, _), (6, _), (10, _), (11, _), (12, _), (13, _), (14, _), (29, _), (30, _), (31, _), (36, _), (37, _), (38, _), (44, _), (45, _), (48, _), (49, _), (50, _), (9, _)]) ⟨rfl, rfl, rfl, rfl, rfl, rfl, rfl, rfl, rfl, rfl, rfl, rfl, rfl, rfl, rfl, rfl, rfl, rfl, rfl, rfl, trivial⟩ ?_
                      refine NX.block ?_
                      refine NX.then ?_
                      refine Tr.region_f (fun _ => false) ?_
                      refine W.q rfl rfl rfl rfl (by decide) (Yd.add rfl (.t rfl) .c) ?_
                      refine W.q rfl rfl rfl rfl (by decide) (Yd.mv rfl (.t rfl)) ?_
                      refine W.end ?_
                      refine NX.sub (env' := [(0, _), (1, _), (6, _), (10, _), (11, _), (12, _), (13, _), (14, _), (29, _), (30, _), (31, _), (36, _), (37, _), (38, _), (44, _), (45, _), (48, _), (49, _), (50, _), (9, _)]) ⟨rfl, rfl, rfl, rfl, rfl, rfl, rfl, rfl, rfl, rfl, rfl, rfl, rfl, rfl, rfl, rfl, rfl, rfl, rfl, rfl, trivial⟩ ?_
                      refine NX.sub (env' := [(0, _), (1, _), (6, _), (9, _), (10, _), (11, _), (12, _), (13, _), (14, _), (29, _), (30, _), (31, _), (36, _), (37, _), (38, _), (44, _), (45, _), (48, _), (49, _), (50, _)]) ⟨rfl, rfl, rfl, rfl, rfl, rfl, rfl, rfl, rfl, rfl, rfl, rfl, rfl, rfl, rfl, rfl, rfl, rfl, rfl, rfl, trivial⟩ ?_
                      have hw := w64_id (n := t_119 + 1) (by omega) (by omega)
                      exact NX.again n122 (t_119 + 1, true, (l107.set t_40.toNat (y136.set t_95.toNat ((y140 ||| y123.c))))) (Nat.lt_succ_self _) ⟨_, _, (setM hw110), (by rw [hw] <;> rfl), rfl, (fr_dec hnt_119), (by omega), ((hnx121 _).symm.trans hr)⟩
                    · have hr := cond_f hb hr
                      refine Tr.skip' ?_
                      refine NX.block ?_
                      refine NX.then ?_
                      refine Tr.region_f (fun _ => false) ?_
                      refine W.q rfl rfl rfl rfl (by decide) (Yd.add rfl (.t rfl) .c) ?_
                      refine W.q rfl rfl rfl rfl (by decide) (Yd.mv rfl (.t rfl)) ?_
                      refine W.end ?_
                      refine NX.sub (env' := [(0, _), (1, _), (6, _), (9, _), (10, _), (11, _), (12, _), (13, _), (14, _), (29, _), (30, _), (31, _), (36, _), (37, _), (38, _), (44, _), (45, _), (48, _), (49, _), (50, _)]) ⟨rfl, rfl, rfl, rfl, rfl, rfl, rfl, rfl, rfl, rfl, rfl, rfl, rfl, rfl, rfl, rfl, rfl, rfl, rfl, rfl, trivial⟩ ?_
                      refine NX.drop (l' := hown 38 1 v108 _ _ :: hrows 33 1 encU _ _ :: l) (.cons _ (.cons_cons _ (.cons_cons _ (.refl _)))) ?_
                      refine NX.sub (env' := [(0, _), (1, _), (6, _), (9, _), (10, _), (11, _), (12, _), (13, _), (14, _), (29, _), (30, _), (31, _), (36, _), (37, _), (38, _), (44, _), (45, _), (48, _), (49, _), (50, _)]) ⟨rfl, rfl, rfl, rfl, rfl, rfl, rfl, rfl, rfl, rfl, rfl, rfl, rfl, rfl, rfl, rfl, rfl, rfl, rfl, rfl, trivial⟩ ?_
                      have hw := w64_id (n := t_119 + 1) (by omega) (by omega)
                      exact NX.again n122 (t_119 + 1, more_105, l107) (Nat.lt_succ_self _) ⟨_, _, hw110, (by rw [hw] <;> rfl), rfl, (fr_dec hnt_119), (by omega), ((hnx121 _).symm.trans hr)⟩
  have hlen142 := (hm_0).2.1
  refine Tr.block ?_
  refine Tr.sub (env' := [(0, _), (1, _), (6, _), (17, _), (18, _), (19, _)]) ⟨rfl, rfl, rfl, rfl, rfl, rfl, trivial⟩ ?_
  refine Tr.loop (S := fun n (z : Int × (List (List (BitVec 32)))) env x => match z with | (t_143, l8) => ∃ v9 : Value, ∃ us10 : List Value, us10.length = l8.length ∧ env = [(0, um_0), (1, uchains_1), (6, v9), (17, um_0), (18, .int .i64 ((m_0.length : Int))), (19, .int .i64 t_143)] ∧ x = ⟨m, hown 38 1 v9 l8.length us10 :: hrows 33 1 encU us10 l8 :: l⟩ ∧ n = ((m_0.length : Int) - t_143).toNat ∧ 0 ≤ t_143 ∧ forK (σ := (List (List (BitVec 32)))) (fun i s nx_ => rights_round_b144 m_0 i s nx_) (fun s => rights_round_k16 m_0 chains_1 s) n t_143 l8 = some r) _ ((0 : Int), ([] : List (List (BitVec 32)))) ⟨_, _, (rfl : ([] : List Value).length = ([] : List (List (BitVec 32))).length), rfl, rfl, rfl, (by omega), hr⟩ ?_
  rintro n146 ⟨t_143, l8⟩ env x ⟨v9, us10, hw11, rfl, rfl, hnt_143, h0t_143, hr⟩
  cases n146 with
  | zero =>
    simp only [forK] at hr
    refine Tr.seq ?_
    refine Tr.region_f (fun _ => false) ?_
    refine W.q rfl rfl rfl rfl (by decide) (Yd.lss rfl (.t rfl) (.t rfl)) ?_
    refine W.end ?_
    refine NX.sub (env' := [(0, _), (1, _), (6, _), (17, _), (18, _), (19, _), (20, _)]) ⟨rfl, rfl, rfl, rfl, rfl, rfl, rfl, trivial⟩ ?_
    refine NX.then ?_
    refine Tr.seq ?_
    refine Tr.cond (.t rfl) (fun hb => ?_) (fun hb => ?_)
    · exact absurd (hb.symm.trans (fr_end hnt_143)) (by decide)
    ·
      refine Tr.exit' (EX.then (EX.then (EX.block ?_)))
      refine NX.sub (env' := [(0, _), (1, _), (6, _)]) ⟨rfl, rfl, rfl, trivial⟩ ?_
      exact hk17 _ _ ⟨_, _, _, hw11, rfl, rfl, hr⟩
  | succ n146 =>
    obtain ⟨nx145, hnx145, hr⟩ := forK_succ hr
    try dsimp only at hr
    unfold rights_round_b144 at hr
    try dsimp only at hr
    have hltt_143 := fr_bnd hnt_143
    refine Tr.seq ?_
    refine Tr.region_f (fun _ => false) ?_
    refine W.q rfl rfl rfl rfl (by decide) (Yd.lss rfl (.t rfl) (.t rfl)) ?_
    refine W.end ?_
    refine NX.sub (env' := [(0, _), (1, _), (6, _), (17, _), (18, _), (19, _), (20, _)]) ⟨rfl, rfl, rfl, rfl, rfl, rfl, rfl, trivial⟩ ?_
    refine NX.then ?_
    refine Tr.seq ?_
    refine Tr.cond (.t rfl) (fun hb => ?_) (fun hb => ?_)
    rotate_left
    · exact absurd (hb.symm.trans (fr_go hnt_143)) (by decide)
    ·
      refine Tr.skip' ?_
      refine NX.then ?_
      refine Tr.seq ?_
      refine Tr.block ?_
      refine Tr.seq ?_
      obtain ⟨y147, hy148, hr⟩ := bind_some hr
      refine Tr.region_f (fun _ => false) ?_
      refine W.q rfl rfl rfl rfl (by decide) (Yd.idxR hm_0 hy148 rfl Try.underlying23 SZ38 (.t rfl) (.t rfl)) ?_
      obtain ⟨u149, hu150, hat151⟩ := hm_0.row hy148
      refine W.q rfl rfl rfl rfl (by decide) (Yd.ldRow hat151 (.refl _) rfl ON38 (.t rfl)) ?_
      refine W.q rfl rfl rfl rfl (by decide) (Yd.as rfl (.t rfl)) ?_
      refine W.end ?_
      refine NX.sub (env' := [(0, _), (1, _), (6, _), (17, _), (18, _), (19, _), (8, _)]) ⟨rfl, rfl, rfl, rfl, rfl, rfl, rfl, trivial⟩ ?_
      refine NX.then ?_
      obtain ⟨r152, hr153, hr⟩ := bind_some hr
      obtain ⟨hq159, hr⟩ := guard_some hr; replace hq159 := of_decide_eq_true hq159
      refine Tr.region_f (fun i => Nat.beq i 2 || Nat.beq i 3 || Nat.beq i 4) ?_
      refine W.q rfl rfl rfl rfl (by decide) (Yd.mv rfl (.t rfl)) ?_
      refine W.q rfl rfl rfl rfl (by decide) (Yd.mv rfl (.t rfl)) ?_
      refine W.e rfl rfl rfl rfl (by decide) (Ef.call (R := fun z x' => ∃ v154 : Value, z = v154 ∧ x' = ⟨m, hownT 33 1 encU v154 r152 :: hown 38 1 v9 l8.length us10 :: hrows 33 1 encU us10 l8 :: l⟩) rfl Try.func72 rfl rfl (.cons (.t rfl) .nil) (fun w hw => (slices_Clone_Suint32uint32_ok w0 _ _ _ _ hu150 _ hr153 w hw).mono fun e w' ⟨v154, he, hc'⟩ => ⟨_, _, he, ⟨v154, rfl, rfl⟩, hc'⟩)) ?_
      rintro v154 _ ⟨_, rfl, rfl⟩
      refine ⟨.inl rfl, ?_⟩
      refine W.cast (m' := m) (l' := hownT 33 1 encU v154 _ :: hown 38 1 v9 _ _ :: hrows 33 1 encU _ _ :: l) rfl rfl ?_
      refine W.e rfl rfl rfl rfl (by decide) (Ef.bsO (pos := 0) rfl IF38 rfl Try.underlying23 (.cons (.t rfl) .nil)) ?_
      rintro v156 _ rfl
      refine ⟨.inl rfl, ?_⟩
      refine W.cast (m' := m) (l' := hown 38 1 v156 _ _ :: hownT 33 1 encU v154 _ :: hown 38 1 v9 _ _ :: hrows 33 1 encU _ _ :: l) rfl rfl ?_
      refine W.e rfl rfl rfl rfl (by decide) (Ef.apO (pos := 2) (pos2 := 0) (pos3 := 1) (xss := l8) (ys := r152) IF38 rfl rfl rfl rfl Try.underlying23 rfl (.t rfl) (.t rfl) (by omega) (by omega)) ?_
      rintro v158 _ rfl
      refine ⟨.inl rfl, ?_⟩
      refine W.cast (m' := m) (l' := hown 38 1 v156 _ _ :: hownT 33 1 encU v154 _ :: hown 38 1 v158 _ _ :: hrows 33 1 encU _ _ :: l) rfl rfl ?_
      refine W.q rfl rfl rfl rfl (by decide) (Yd.as rfl (.t rfl)) ?_
      refine W.end ?_
      refine NX.imp (fun w hw => cX_merge (po := 1) (pr := 2) rfl rfl hw) ?_
      refine NX.cast (m' := m) (l' := hown 38 1 v156 _ _ :: hown 38 1 v158 _ _ :: hrows 33 1 encU _ _ :: l) rfl rfl ?_
      refine NX.sub (env' := [(0, _), (1, _), (6, _), (17, _), (18, _), (19, _)]) ⟨rfl, rfl, rfl, rfl, rfl, rfl, trivial⟩ ?_
      refine NX.drop (l' := hown 38 1 v158 _ _ :: hrows 33 1 encU _ _ :: l) (.cons _ (.cons_cons _ (.cons_cons _ (.refl _)))) ?_
      refine NX.block ?_
      refine NX.then ?_
      refine Tr.region_f (fun _ => false) ?_
      refine W.q rfl rfl rfl rfl (by decide) (Yd.add rfl (.t rfl) .c) ?_
      refine W.q rfl rfl rfl rfl (by decide) (Yd.mv rfl (.t rfl)) ?_
      refine W.end ?_
      refine NX.sub (env' := [(0, _), (1, _), (6, _), (17, _), (18, _), (19, _)]) ⟨rfl, rfl, rfl, rfl, rfl, rfl, trivial⟩ ?_
      refine NX.sub (env' := [(0, _), (1, _), (6, _), (17, _), (18, _), (19, _)]) ⟨rfl, rfl, rfl, rfl, rfl, rfl, trivial⟩ ?_
      have hw := w64_id (n := t_143 + 1) (by omega) (by omega)
      exact NX.again n146 (t_143 + 1, (l8 ++ [r152])) (Nat.lt_succ_self _) ⟨_, _, (snocM (ys := r152) hw11), (by rw [hw] <;> rfl), rfl, (fr_dec hnt_143), (by omega), ((hnx145 _).symm.trans hr)⟩

def rights_Close_k22 (m_18 : List (List (BitVec 32))) : Option ((List (List (BitVec 32))) × Int) :=
  some ((m_18, (0 : Int)))

def rights_Close_b24 (chains_2 : List Chain) (m_13 : List (List (BitVec 32))) (more_16 : Bool) (nx25 : ((List (List (BitVec 32))) × Bool) → Option ((List (List (BitVec 32))) × Int)) : Option ((List (List (BitVec 32))) × Int) :=
  (bif more_16 then
  (rights_round m_13 chains_2).bind fun r27 =>
  nx25 (r27.1, r27.2)
  else
  rights_Close_k22 m_13)

def rights_Close (fuel : Nat) (n_0 : Int) (m_1 : List (List (BitVec 32))) (chains_2 : List Chain) : Option ((List (List (BitVec 32))) × Int) :=
  (rights_wrong n_0 m_1 chains_2).bind fun r1 =>
  (bif (r1 != (0 : Int)) then
  some (([], r1))
  else
  (rights_round m_1 chains_2).bind fun r3 =>
  whileK (σ := (List (List (BitVec 32))) × Bool) (fun s nx_ => rights_Close_b24 chains_2 s.1 s.2 nx_) fuel (r3.1, r3.2))

set_option maxRecDepth 100000 in
theorem rights_Close_ok (w0 : World) (m : Snap) (l : List HI) (fuel : Nat) (n_0 : Int) (um_1 : Value) (m_1 : List (List (BitVec 32))) (hm_1 : RS (Rp.slice rU) m um_1 m_1) (uchains_2 : Value) (chains_2 : List Chain) (hchains_2 : RS rChain m uchains_2 chains_2) (r : (List (List (BitVec 32))) × Int) (hr : rights_Close fuel n_0 m_1 chains_2 = some r) (w : World) (hc : cX w0 ⟨m, l⟩ w) :
    Calls Try.prog 13 [.int .i64 n_0, um_1, uchains_2].toArray w fun e w' => ∃ z0 : Value, ∃ m1 : Snap, e = .returned (.tuple #[z0, .int .i64 r.2]) ∧ Sle m m1 ∧ RS (Rp.slice rU) m1 z0 r.1 ∧ cX w0 ⟨m1, l⟩ w' := by
  unfold rights_Close at hr
  refine calls_of_Tr (N := 31) Try.func13 rfl hc rfl (Nat.le_of_ble_eq_true rfl) ?_
  refine Tr.seq ?_
  refine Tr.region_f (fun _ => false) ?_
  refine W.q rfl rfl rfl rfl (by decide) (Yd.as rfl .c) ?_
  refine W.q rfl rfl rfl rfl (by decide) (Yd.as rfl .c) ?_
  refine W.end ?_
  refine NX.sub (env' := [(0, _), (1, _), (2, _)]) ⟨rfl, rfl, rfl, trivial⟩ ?_
  refine NX.then ?_
  refine Tr.seq ?_
  refine Tr.seq ?_
  obtain ⟨r1, hr2, hr⟩ := bind_some hr
  refine Tr.region_f (fun _ => false) ?_
  refine W.q rfl rfl rfl rfl (by decide) (Yd.mv rfl (.t rfl)) ?_
  refine W.q rfl rfl rfl rfl (by decide) (Yd.mv rfl (.t rfl)) ?_
  refine W.q rfl rfl rfl rfl (by decide) (Yd.mv rfl (.t rfl)) ?_
  refine W.q rfl rfl rfl rfl (by decide) (Yd.call (v := .int .i64 r1) rfl Try.func43 rfl rfl (.cons (.t rfl) (.cons (.t rfl) (.cons (.t rfl) .nil))) (fun x' hx w hw => rights_wrong_ok w0 x'.m x'.l n_0 _ _ (hm_1.mono hx.1) _ _ (hchains_2.mono hx.1) _ hr2 w hw)) ?_
  refine W.q rfl rfl rfl rfl (by decide) (Yd.as rfl (.t rfl)) ?_
  refine W.end ?_
  refine NX.sub (env' := [(1, _), (2, _), (8, _)]) ⟨rfl, rfl, rfl, trivial⟩ ?_
  refine NX.then ?_
  refine Tr.seq ?_
  refine Tr.region_f (fun _ => false) ?_
  refine W.q rfl rfl rfl rfl (by decide) (Yd.mv rfl (.t rfl)) ?_
  refine W.q rfl rfl rfl rfl (by decide) (Yd.neq rfl (.t rfl) .c) ?_
  refine W.end ?_
  refine NX.sub (env' := [(1, _), (2, _), (8, _), (15, _)]) ⟨rfl, rfl, rfl, rfl, trivial⟩ ?_
  refine NX.then ?_
  refine Tr.cond (.t rfl) (fun hb => ?_) (fun hb => ?_)
  · have hr := cond_t hb hr
    refine Tr.seq ?_
    refine Tr.region_f (fun _ => false) ?_
    refine W.q rfl rfl rfl rfl (by decide) (Yd.mv rfl (.t rfl)) ?_
    refine W.q rfl rfl rfl rfl (by decide) (Yd.as rfl .c) ?_
    refine W.q rfl rfl rfl rfl (by decide) (Yd.as rfl (.t rfl)) ?_
    refine W.end ?_
    refine NX.sub (env' := [(6, _), (7, _)]) ⟨rfl, rfl, trivial⟩ ?_
    refine NX.then ?_
    refine Tr.ret' (RT.then ?_)
    refine res2 rfl rfl rfl ?_
    intro w hc
    cases hr
    exact ⟨_, _, rfl, (.refl _), (RS.nil _ _), hc⟩
  · have hr := cond_f hb hr
    refine Tr.skip' ?_
    refine NX.then ?_
    refine Tr.seq ?_
    obtain ⟨r3, hr4, hr⟩ := bind_some hr
    refine Tr.region_f (fun i => Nat.beq i 2) ?_
    refine W.q rfl rfl rfl rfl (by decide) (Yd.mv rfl (.t rfl)) ?_
    refine W.q rfl rfl rfl rfl (by decide) (Yd.mv rfl (.t rfl)) ?_
    refine W.e rfl rfl rfl rfl (by decide) (Ef.call (R := fun z x' => ∃ u5 : Value, ∃ m6 : Snap, z = .tuple #[u5, .bool r3.2] ∧ x' = ⟨m6, l⟩ ∧ Sle m m6 ∧ RS (Rp.slice rU) m6 u5 r3.1) rfl Try.func44 rfl rfl (.cons (.t rfl) (.cons (.t rfl) .nil)) (fun w hw => (rights_round_ok w0 _ _ _ _ hm_1 _ _ hchains_2 _ hr4 w hw).mono fun e w' ⟨u5, m6, he, hm', hu7, hc'⟩ => ⟨_, _, he, ⟨u5, m6, rfl, rfl, hm', hu7⟩, hc'⟩)) ?_
    rintro _ _ ⟨u5, m6, rfl, rfl, hsm6, hu7⟩
    have hm_1 := hm_1.mono hsm6
    have hchains_2 := hchains_2.mono hsm6
    refine ⟨.inl rfl, ?_⟩
    refine W.cast (m' := m6) (l' := l) rfl rfl ?_
    refine W.q rfl rfl rfl rfl (by decide) (Yd.mv rfl (.t rfl)) ?_
    refine W.q rfl rfl rfl rfl (by decide) (Yd.ext rfl (.t rfl) rfl) ?_
    refine W.q rfl rfl rfl rfl (by decide) (Yd.ext rfl (.t rfl) rfl) ?_
    refine W.q rfl rfl rfl rfl (by decide) (Yd.as rfl (.t rfl)) ?_
    refine W.q rfl rfl rfl rfl (by decide) (Yd.as rfl (.t rfl)) ?_
    refine W.end ?_
    refine NX.sub (env' := [(1, _), (2, _), (9, _)]) ⟨rfl, rfl, rfl, trivial⟩ ?_
    refine NX.then ?_
    refine Tr.seq ?_
    refine Tr.join (S := fun env x => ∃ m_18 : List (List (BitVec 32)), ∃ m21 : Snap, ∃ u19 : Value, Sle m6 m21 ∧ RS (Rp.slice rU) m21 u19 m_18 ∧ env = [(1, u19)] ∧ x = ⟨m21, l⟩ ∧ rights_Close_k22 m_18 = some r) ?_ (fun hk23 => ?_)
    · rintro _ _ ⟨m_18, m21, u19, hsm21, hu20, rfl, rfl, hr⟩
      unfold rights_Close_k22 at hr
      try dsimp only at hr
      have hm_1 := hm_1.mono hsm21
      have hchains_2 := hchains_2.mono hsm21
      have hu7 := hu7.mono hsm21
      refine NX.then ?_
      refine Tr.seq ?_
      refine Tr.region_f (fun _ => false) ?_
      refine W.q rfl rfl rfl rfl (by decide) (Yd.mv rfl (.t rfl)) ?_
      refine W.q rfl rfl rfl rfl (by decide) (Yd.as rfl (.t rfl)) ?_
      refine W.q rfl rfl rfl rfl (by decide) (Yd.as rfl .c) ?_
      refine W.end ?_
      refine NX.sub (env' := [(6, _), (7, _)]) ⟨rfl, rfl, trivial⟩ ?_
      refine NX.then ?_
      refine Tr.ret' ?_
      refine res2 rfl rfl rfl ?_
      intro w hc
      cases hr
      exact ⟨_, _, rfl, (hsm6.trans hsm21), hu20, hc⟩
    refine Tr.block ?_
    refine Tr.sub (env' := [(1, _), (2, _), (9, _)]) ⟨rfl, rfl, rfl, trivial⟩ ?_
    refine Tr.loop (S := fun n (z : (List (List (BitVec 32))) × Bool) env x => match z with | (m_13, more_16) => ∃ m17 : Snap, ∃ u14 : Value, Sle m6 m17 ∧ RS (Rp.slice rU) m17 u14 m_13 ∧ env = [(1, u14), (2, uchains_2), (9, .bool more_16)] ∧ x = ⟨m17, l⟩ ∧ whileK (σ := (List (List (BitVec 32))) × Bool) (fun s nx_ => rights_Close_b24 chains_2 s.1 s.2 nx_) n (m_13, more_16) = some r) _ (r3.1, r3.2) ⟨_, _, (.refl _), hu7, rfl, rfl, hr⟩ ?_
    rintro n26 ⟨m_13, more_16⟩ env x ⟨m17, u14, hsm17, hu15, rfl, rfl, hr⟩
    have hm_1 := hm_1.mono hsm17
    have hchains_2 := hchains_2.mono hsm17
    have hu7 := hu7.mono hsm17
    cases n26 with
    | zero => simp [whileK] at hr
    | succ n26 =>
      obtain ⟨nx25, hnx25, hr⟩ := whileK_succ hr
      try dsimp only at hr
      unfold rights_Close_b24 at hr
      try dsimp only at hr
      refine Tr.seq ?_
      refine Tr.seq ?_
      refine Tr.region_f (fun _ => false) ?_
      refine W.q rfl rfl rfl rfl (by decide) (Yd.mv rfl (.t rfl)) ?_
      refine W.end ?_
      refine NX.sub (env' := [(1, _), (2, _), (23, _)]) ⟨rfl, rfl, rfl, trivial⟩ ?_
      refine NX.then ?_
      refine Tr.cond (.t rfl) (fun hb => ?_) (fun hb => ?_)
      · have hr := cond_t hb hr
        refine Tr.skip' ?_
        refine NX.then ?_
        refine Tr.block ?_
        obtain ⟨r27, hr28, hr⟩ := bind_some hr
        refine Tr.region_f (fun i => Nat.beq i 2) ?_
        refine W.q rfl rfl rfl rfl (by decide) (Yd.mv rfl (.t rfl)) ?_
        refine W.q rfl rfl rfl rfl (by decide) (Yd.mv rfl (.t rfl)) ?_
        refine W.e rfl rfl rfl rfl (by decide) (Ef.call (R := fun z x' => ∃ u29 : Value, ∃ m30 : Snap, z = .tuple #[u29, .bool r27.2] ∧ x' = ⟨m30, l⟩ ∧ Sle m17 m30 ∧ RS (Rp.slice rU) m30 u29 r27.1) rfl Try.func44 rfl rfl (.cons (.t rfl) (.cons (.t rfl) .nil)) (fun w hw => (rights_round_ok w0 _ _ _ _ hu15 _ _ hchains_2 _ hr28 w hw).mono fun e w' ⟨u29, m30, he, hm', hu31, hc'⟩ => ⟨_, _, he, ⟨u29, m30, rfl, rfl, hm', hu31⟩, hc'⟩)) ?_
        rintro _ _ ⟨u29, m30, rfl, rfl, hsm30, hu31⟩
        have hm_1 := hm_1.mono hsm30
        have hchains_2 := hchains_2.mono hsm30
        have hu7 := hu7.mono hsm30
        have hu15 := hu15.mono hsm30
        refine ⟨.inl rfl, ?_⟩
        refine W.cast (m' := m30) (l' := l) rfl rfl ?_
        refine W.q rfl rfl rfl rfl (by decide) (Yd.mv rfl (.t rfl)) ?_
        refine W.q rfl rfl rfl rfl (by decide) (Yd.ext rfl (.t rfl) rfl) ?_
        refine W.q rfl rfl rfl rfl (by decide) (Yd.ext rfl (.t rfl) rfl) ?_
        refine W.q rfl rfl rfl rfl (by decide) (Yd.as rfl (.t rfl)) ?_
        refine W.q rfl rfl rfl rfl (by decide) (Yd.as rfl (.t rfl)) ?_
        refine W.end ?_
        refine NX.sub (env' := [(1, _), (2, _), (9, _)]) ⟨rfl, rfl, rfl, trivial⟩ ?_
        refine NX.block ?_
        refine NX.sub (env' := [(1, _), (2, _), (9, _)]) ⟨rfl, rfl, rfl, trivial⟩ ?_
        exact NX.again n26 (r27.1, r27.2) (Nat.lt_succ_self _) ⟨_, _, (hsm17.trans hsm30), hu31, rfl, rfl, ((hnx25 _).symm.trans hr)⟩
      · have hr := cond_f hb hr
        refine Tr.exit' (EX.then (EX.then (EX.block ?_)))
        refine NX.sub (env' := [(1, _)]) ⟨rfl, trivial⟩ ?_
        exact hk23 _ _ ⟨_, _, _, hsm17, hu15, rfl, rfl, hr⟩

def syllogistref_MatrixCheck_k3 : Option (Int) :=
  some ((0 : Int))

def syllogistref_MatrixCheck_b7 (n_0 : Int) (m_1 : List (List (BitVec 32))) (t_6 : Int) (nx8 : Unit → Option (Int)) : Option (Int) :=
  (geti m_1 t_6).bind fun y10 =>
  (bif ((y10.length : Int) != n_0) then
  some ((3 : Int))
  else
  nx8 ())

def syllogistref_MatrixCheck (n_0 : Int) (m_1 : List (List (BitVec 32))) (chains_2 : List Chain) : Option (Int) :=
  (bif (((decide (n_0 < (1 : Int))) || (decide (n_0 > (6 : Int)))) || (decide ((chains_2.length : Int) > (10 : Int)))) then
  some ((1 : Int))
  else
  (bif ((m_1.length : Int) != n_0) then
  some ((3 : Int))
  else
  forK (σ := Unit) (fun i s nx_ => syllogistref_MatrixCheck_b7 n_0 m_1 i nx_) (fun _ => syllogistref_MatrixCheck_k3) ((m_1.length : Int) - (0 : Int)).toNat (0 : Int) ()))

set_option maxRecDepth 100000 in
theorem syllogistref_MatrixCheck_ok (w0 : World) (m : Snap) (l : List HI) (n_0 : Int) (um_1 : Value) (m_1 : List (List (BitVec 32))) (hm_1 : RS (Rp.slice rU) m um_1 m_1) (uchains_2 : Value) (chains_2 : List Chain) (hchains_2 : RS rChain m uchains_2 chains_2) (r : Int) (hr : syllogistref_MatrixCheck n_0 m_1 chains_2 = some r) (w : World) (hc : cX w0 ⟨m, l⟩ w) :
    Calls Try.prog 14 [.int .i64 n_0, um_1, uchains_2].toArray w fun e w' => e = .returned (.int .i64 r) ∧ cX w0 ⟨m, l⟩ w' := by
  unfold syllogistref_MatrixCheck at hr
  refine calls_of_Tr (N := 35) Try.func14 rfl hc rfl (Nat.le_of_ble_eq_true rfl) ?_
  refine Tr.seq ?_
  refine Tr.region_f (fun _ => false) ?_
  refine W.q rfl rfl rfl rfl (by decide) (Yd.as rfl .c) ?_
  refine W.end ?_
  refine NX.sub (env' := [(0, _), (1, _), (2, _)]) ⟨rfl, rfl, rfl, trivial⟩ ?_
  refine NX.then ?_
  refine Tr.seq ?_
  refine Tr.seq ?_
  refine Tr.region_f (fun _ => false) ?_
  refine W.q rfl rfl rfl rfl (by decide) (Yd.mv rfl (.t rfl)) ?_
  refine W.q rfl rfl rfl rfl (by decide) (Yd.lss rfl (.t rfl) .c) ?_
  refine W.q rfl rfl rfl rfl (by decide) (Yd.mv rfl (.t rfl)) ?_
  refine W.g rfl rfl rfl rfl rfl (.t rfl _) rfl (by decide) (fun hG => Yd.mv rfl (.t rfl)) ?_
  refine W.g rfl rfl rfl rfl rfl (.t rfl _) rfl (by decide) (fun hG => Yd.gtr rfl (.g rfl hG) .c) ?_
  refine W.q rfl rfl rfl rfl (by decide) (Yd.or rfl (.t rfl) .c rfl rfl) ?_
  refine W.q rfl rfl rfl rfl (by decide) (Yd.mv rfl (.t rfl)) ?_
  refine W.g rfl rfl rfl rfl rfl (.t rfl _) rfl (by decide) (fun hG => Yd.mv rfl (.t rfl)) ?_
  refine W.g rfl rfl rfl rfl rfl (.t rfl _) rfl (by decide) (fun hG => Yd.lenR hchains_2 rfl Try.underlying24 (.g rfl hG)) ?_
  refine W.g rfl rfl rfl rfl rfl (.t rfl _) rfl (by decide) (fun hG => Yd.gtr rfl (.g rfl hG) .c) ?_
  refine W.q rfl rfl rfl rfl (by decide) (Yd.or rfl (.t rfl) .c rfl rfl) ?_
  refine W.end ?_
  refine NX.sub (env' := [(0, _), (1, _), (19, _)]) ⟨rfl, rfl, rfl, trivial⟩ ?_
  refine NX.then ?_
  refine Tr.cond (.t rfl) (fun hb => ?_) (fun hb => ?_)
  · have hr := cond_t hb hr
    refine Tr.seq ?_
    refine Tr.region_f (fun _ => false) ?_
    refine W.q rfl rfl rfl rfl (by decide) (Yd.as rfl .c) ?_
    refine W.end ?_
    refine NX.sub (env' := [(6, _)]) ⟨rfl, trivial⟩ ?_
    refine NX.then ?_
    refine Tr.ret' (RT.then ?_)
    refine res1 rfl rfl ?_
    intro w hc
    cases hr
    exact ⟨rfl, hc⟩
  · have hr := cond_f hb hr
    refine Tr.skip' ?_
    refine NX.then ?_
    refine Tr.seq ?_
    refine Tr.seq ?_
    refine Tr.region_f (fun _ => false) ?_
    refine W.q rfl rfl rfl rfl (by decide) (Yd.mv rfl (.t rfl)) ?_
    refine W.q rfl rfl rfl rfl (by decide) (Yd.lenR hm_1 rfl Try.underlying23 (.t rfl)) ?_
    refine W.q rfl rfl rfl rfl (by decide) (Yd.mv rfl (.t rfl)) ?_
    refine W.q rfl rfl rfl rfl (by decide) (Yd.neq rfl (.t rfl) (.t rfl)) ?_
    refine W.end ?_
    refine NX.sub (env' := [(0, _), (1, _), (23, _)]) ⟨rfl, rfl, rfl, trivial⟩ ?_
    refine NX.then ?_
    refine Tr.cond (.t rfl) (fun hb => ?_) (fun hb => ?_)
    · have hr := cond_t hb hr
      refine Tr.seq ?_
      refine Tr.region_f (fun _ => false) ?_
      refine W.q rfl rfl rfl rfl (by decide) (Yd.as rfl .c) ?_
      refine W.end ?_
      refine NX.sub (env' := [(6, _)]) ⟨rfl, trivial⟩ ?_
      refine NX.then ?_
      refine Tr.ret' (RT.then ?_)
      refine res1 rfl rfl ?_
      intro w hc
      cases hr
      exact ⟨rfl, hc⟩
    · have hr := cond_f hb hr
      refine Tr.skip' ?_
      refine NX.then ?_
      refine Tr.seq ?_
      refine Tr.seq ?_
      refine Tr.region_f (fun _ => false) ?_
      refine W.q rfl rfl rfl rfl (by decide) (Yd.mv rfl (.t rfl)) ?_
      refine W.q rfl rfl rfl rfl (by decide) (Yd.lenR hm_1 rfl Try.underlying23 (.t rfl)) ?_
      refine W.q rfl rfl rfl rfl (by decide) (Yd.mv rfl .c) ?_
      refine W.end ?_
      refine NX.sub (env' := [(0, _), (24, _), (25, _), (26, _)]) ⟨rfl, rfl, rfl, rfl, trivial⟩ ?_
      refine NX.then ?_
      refine Tr.join (S := fun env x => env = [] ∧ x = ⟨m, l⟩ ∧ syllogistref_MatrixCheck_k3 = some r) ?_ (fun hk4 => ?_)
      · rintro _ _ ⟨rfl, rfl, hr⟩
        unfold syllogistref_MatrixCheck_k3 at hr
        try dsimp only at hr
        refine NX.then ?_
        refine Tr.seq ?_
        refine Tr.region_f (fun _ => false) ?_
        refine W.q rfl rfl rfl rfl (by decide) (Yd.as rfl .c) ?_
        refine W.end ?_
        refine NX.sub (env' := [(6, _)]) ⟨rfl, trivial⟩ ?_
        refine NX.then ?_
        refine Tr.ret' ?_
        refine res1 rfl rfl ?_
        intro w hc
        cases hr
        exact ⟨rfl, hc⟩
      have hlen5 := (hm_1).2.1
      refine Tr.block ?_
      refine Tr.sub (env' := [(0, _), (24, _), (25, _), (26, _)]) ⟨rfl, rfl, rfl, rfl, trivial⟩ ?_
      refine Tr.loop (S := fun n (z : Int × Unit) env x => match z with | (t_6, _) => env = [(0, .int .i64 n_0), (24, um_1), (25, .int .i64 ((m_1.length : Int))), (26, .int .i64 t_6)] ∧ x = ⟨m, l⟩ ∧ n = ((m_1.length : Int) - t_6).toNat ∧ 0 ≤ t_6 ∧ forK (σ := Unit) (fun i s nx_ => syllogistref_MatrixCheck_b7 n_0 m_1 i nx_) (fun _ => syllogistref_MatrixCheck_k3) n t_6 () = some r) _ ((0 : Int), ()) ⟨rfl, rfl, rfl, (by omega), hr⟩ ?_
      rintro n9 ⟨t_6, _⟩ env x ⟨rfl, rfl, hnt_6, h0t_6, hr⟩
      cases n9 with
      | zero =>
        simp only [forK] at hr
        refine Tr.seq ?_
        refine Tr.region_f (fun _ => false) ?_
        refine W.q rfl rfl rfl rfl (by decide) (Yd.lss rfl (.t rfl) (.t rfl)) ?_
        refine W.end ?_
        refine NX.sub (env' := [(0, _), (24, _), (25, _), (26, _), (27, _)]) ⟨rfl, rfl, rfl, rfl, rfl, trivial⟩ ?_
        refine NX.then ?_
        refine Tr.seq ?_
        refine Tr.cond (.t rfl) (fun hb => ?_) (fun hb => ?_)
        · exact absurd (hb.symm.trans (fr_end hnt_6)) (by decide)
        ·
          refine Tr.exit' (EX.then (EX.then (EX.block ?_)))
          refine NX.sub (env' := []) trivial ?_
          exact hk4 _ _ ⟨rfl, rfl, hr⟩
      | succ n9 =>
        obtain ⟨nx8, hnx8, hr⟩ := forK_succ hr
        try dsimp only at hr
        unfold syllogistref_MatrixCheck_b7 at hr
        try dsimp only at hr
        have hltt_6 := fr_bnd hnt_6
        refine Tr.seq ?_
        refine Tr.region_f (fun _ => false) ?_
        refine W.q rfl rfl rfl rfl (by decide) (Yd.lss rfl (.t rfl) (.t rfl)) ?_
        refine W.end ?_
        refine NX.sub (env' := [(0, _), (24, _), (25, _), (26, _), (27, _)]) ⟨rfl, rfl, rfl, rfl, rfl, trivial⟩ ?_
        refine NX.then ?_
        refine Tr.seq ?_
        refine Tr.cond (.t rfl) (fun hb => ?_) (fun hb => ?_)
        rotate_left
        · exact absurd (hb.symm.trans (fr_go hnt_6)) (by decide)
        ·
          refine Tr.skip' ?_
          refine NX.then ?_
          refine Tr.seq ?_
          refine Tr.block ?_
          refine Tr.seq ?_
          obtain ⟨y10, hy11, hr⟩ := bind_some hr
          refine Tr.region_f (fun _ => false) ?_
          refine W.q rfl rfl rfl rfl (by decide) (Yd.idxR hm_1 hy11 rfl Try.underlying23 SZ38 (.t rfl) (.t rfl)) ?_
          obtain ⟨u12, hu13, hat14⟩ := hm_1.row hy11
          refine W.q rfl rfl rfl rfl (by decide) (Yd.ldRow hat14 (.refl _) rfl ON38 (.t rfl)) ?_
          refine W.q rfl rfl rfl rfl (by decide) (Yd.as rfl (.t rfl)) ?_
          refine W.end ?_
          refine NX.sub (env' := [(0, _), (24, _), (25, _), (26, _), (8, _)]) ⟨rfl, rfl, rfl, rfl, rfl, trivial⟩ ?_
          refine NX.then ?_
          refine Tr.seq ?_
          refine Tr.region_f (fun _ => false) ?_
          refine W.q rfl rfl rfl rfl (by decide) (Yd.mv rfl (.t rfl)) ?_
          refine W.q rfl rfl rfl rfl (by decide) (Yd.lenR hu13 rfl Try.underlying38 (.t rfl)) ?_
          refine W.q rfl rfl rfl rfl (by decide) (Yd.mv rfl (.t rfl)) ?_
          refine W.q rfl rfl rfl rfl (by decide) (Yd.neq rfl (.t rfl) (.t rfl)) ?_
          refine W.end ?_
          refine NX.sub (env' := [(0, _), (24, _), (25, _), (26, _), (33, _)]) ⟨rfl, rfl, rfl, rfl, rfl, trivial⟩ ?_
          refine NX.then ?_
          refine Tr.cond (.t rfl) (fun hb => ?_) (fun hb => ?_)
          · have hr := cond_t hb hr
            refine Tr.seq ?_
            refine Tr.region_f (fun _ => false) ?_
            refine W.q rfl rfl rfl rfl (by decide) (Yd.as rfl .c) ?_
            refine W.end ?_
            refine NX.sub (env' := [(6, _)]) ⟨rfl, trivial⟩ ?_
            refine NX.then ?_
            refine Tr.ret' (RT.block (RT.then (RT.then (RT.block (RT.then ?_)))))
            refine res1 rfl rfl ?_
            intro w hc
            cases hr
            exact ⟨rfl, hc⟩
          · have hr := cond_f hb hr
            refine Tr.skip' ?_
            refine NX.block ?_
            refine NX.then ?_
            refine Tr.region_f (fun _ => false) ?_
            refine W.q rfl rfl rfl rfl (by decide) (Yd.add rfl (.t rfl) .c) ?_
            refine W.q rfl rfl rfl rfl (by decide) (Yd.mv rfl (.t rfl)) ?_
            refine W.end ?_
            refine NX.sub (env' := [(0, _), (24, _), (25, _), (26, _)]) ⟨rfl, rfl, rfl, rfl, trivial⟩ ?_
            refine NX.sub (env' := [(0, _), (24, _), (25, _), (26, _)]) ⟨rfl, rfl, rfl, rfl, trivial⟩ ?_
            have hw := w64_id (n := t_6 + 1) (by omega) (by omega)
            exact NX.again n9 (t_6 + 1, ()) (Nat.lt_succ_self _) ⟨(by rw [hw] <;> rfl), rfl, (fr_dec hnt_6), (by omega), ((hnx8 _).symm.trans hr)⟩

def syllogistref_In (a_0 : (BitVec 32)) (b_1 : (BitVec 32)) : Option (Bool) :=
  some (((a_0 ||| b_1) == b_1))

set_option maxRecDepth 100000 in
theorem syllogistref_In_ok (w0 : World) (m : Snap) (l : List HI) (a_0 : (BitVec 32)) (b_1 : (BitVec 32)) (r : Bool) (hr : syllogistref_In a_0 b_1 = some r) (w : World) (hc : cX w0 ⟨m, l⟩ w) :
    Calls Try.prog 19 [.int .u32 (a_0.toNat : Int), .int .u32 (b_1.toNat : Int)].toArray w fun e w' => e = .returned (.bool r) ∧ cX w0 ⟨m, l⟩ w' := by
  unfold syllogistref_In at hr
  refine calls_of_Tr (N := 10) Try.func19 rfl hc rfl (Nat.le_of_ble_eq_true rfl) ?_
  refine Tr.seq ?_
  refine Tr.region_f (fun _ => false) ?_
  refine W.q rfl rfl rfl rfl (by decide) (Yd.as rfl .c) ?_
  refine W.end ?_
  refine NX.sub (env' := [(0, _), (1, _)]) ⟨rfl, rfl, trivial⟩ ?_
  refine NX.then ?_
  refine Tr.seq ?_
  refine Tr.region_f (fun _ => false) ?_
  refine W.q rfl rfl rfl rfl (by decide) (Yd.mv rfl (.t rfl)) ?_
  refine W.q rfl rfl rfl rfl (by decide) (Yd.mv rfl (.t rfl)) ?_
  refine W.q rfl rfl rfl rfl (by decide) (Yd.orU (a := a_0) (b := b_1) rfl (.t rfl) (.t rfl)) ?_
  refine W.q rfl rfl rfl rfl (by decide) (Yd.mv rfl (.t rfl)) ?_
  refine W.q rfl rfl rfl rfl (by decide) (Yd.eqlU (a := (a_0 ||| b_1)) (b := b_1) rfl (.t rfl) (.t rfl)) ?_
  refine W.q rfl rfl rfl rfl (by decide) (Yd.as rfl (.t rfl)) ?_
  refine W.end ?_
  refine NX.sub (env' := [(4, _)]) ⟨rfl, trivial⟩ ?_
  refine NX.then ?_
  refine Tr.ret' ?_
  refine res1 rfl rfl ?_
  intro w hc
  cases hr
  exact ⟨rfl, hc⟩

def syllogistref_Round_k19 (l14 : List (List (BitVec 32))) : Option ((List (List (BitVec 32)))) :=
  some l14

def syllogistref_Round_k45 (l9 : List (List (BitVec 32))) (nx26 : ((List (List (BitVec 32))) → Option ((List (List (BitVec 32)))))) (l43 : List (BitVec 32)) : Option ((List (List (BitVec 32)))) :=
  bif decide (l9.length + 1 ≤ 5864062014805) then
  nx26 (l9 ++ [l43]) else none

def syllogistref_Round_k66 (nx56 : ((List (BitVec 32)) → Option ((List (List (BitVec 32)))))) (l64 : List (BitVec 32)) : Option ((List (List (BitVec 32)))) :=
  nx56 l64

def syllogistref_Round_k81 (nx71 : ((List (BitVec 32)) → Option ((List (List (BitVec 32)))))) (l79 : List (BitVec 32)) : Option ((List (List (BitVec 32)))) :=
  nx71 l79

def syllogistref_Round_b85 (m_1 : List (List (BitVec 32))) (chains_2 : List Chain) (i_24 : Int) (k_54 : Int) (j_69 : Int) (t_84 : Int) (l77 : List (BitVec 32)) (nx86 : (List (BitVec 32)) → Option ((List (List (BitVec 32))))) : Option ((List (List (BitVec 32)))) :=
  (geti chains_2 t_84).bind fun y88 =>
  (geti m_1 i_24).bind fun y92 =>
  (geti y92 j_69).bind fun y97 =>
  (syllogistref_In y88.a y97).bind fun r99 =>
  bif (!(r99 == true) || (geti m_1 j_69).isSome) then
  bif (!(r99 == true) || (geti (((geti m_1 j_69).getD [])) k_54).isSome) then
  bif (!(r99 == true) || (syllogistref_In y88.b (((geti (((geti m_1 j_69).getD [])) k_54).getD (0#32)))).isSome) then
  (bif (r99 && (((syllogistref_In y88.b (((geti (((geti m_1 j_69).getD [])) k_54).getD (0#32)))).getD false))) then
  (geti l77 k_54).bind fun y107 =>
  nx86 (l77.set k_54.toNat ((y107 ||| y88.c)))
  else
  nx86 l77) else none else none else none

def syllogistref_Round_b70 (m_1 : List (List (BitVec 32))) (chains_2 : List Chain) (i_24 : Int) (k_54 : Int) (j_69 : Int) (l62 : List (BitVec 32)) (nx71 : (List (BitVec 32)) → Option ((List (List (BitVec 32))))) : Option ((List (List (BitVec 32)))) :=
  forK (σ := (List (BitVec 32))) (fun i s nx_ => syllogistref_Round_b85 m_1 chains_2 i_24 k_54 j_69 i s nx_) (fun s => syllogistref_Round_k81 nx71 s) ((chains_2.length : Int) - (0 : Int)).toNat (0 : Int) l62

def syllogistref_Round_b55 (n_0 : Int) (m_1 : List (List (BitVec 32))) (chains_2 : List Chain) (i_24 : Int) (k_54 : Int) (l41 : List (BitVec 32)) (nx56 : (List (BitVec 32)) → Option ((List (List (BitVec 32))))) : Option ((List (List (BitVec 32)))) :=
  bif decide (n_0 ≤ 9223372036854775807) then
  forK (σ := (List (BitVec 32))) (fun i s nx_ => syllogistref_Round_b70 m_1 chains_2 i_24 k_54 i s nx_) (fun s => syllogistref_Round_k66 nx56 s) (n_0 - (0 : Int)).toNat (0 : Int) l41 else none

def syllogistref_Round_b25 (n_0 : Int) (m_1 : List (List (BitVec 32))) (chains_2 : List Chain) (i_24 : Int) (l9 : List (List (BitVec 32))) (nx26 : (List (List (BitVec 32))) → Option ((List (List (BitVec 32))))) : Option ((List (List (BitVec 32)))) :=
  (geti m_1 i_24).bind fun y30 =>
  bif decide ((([] : List (BitVec 32))).length + y30.length ≤ 35184372088832) then
  bif decide (n_0 ≤ 9223372036854775807) then
  forK (σ := (List (BitVec 32))) (fun i s nx_ => syllogistref_Round_b55 n_0 m_1 chains_2 i_24 i s nx_) (fun s => syllogistref_Round_k45 l9 nx26 s) (n_0 - (0 : Int)).toNat (0 : Int) ((([] : List (BitVec 32)) ++ y30)) else none else none

def syllogistref_Round (n_0 : Int) (m_1 : List (List (BitVec 32))) (chains_2 : List Chain) : Option ((List (List (BitVec 32)))) :=
  bif decide (n_0 ≤ 9223372036854775807) then
  forK (σ := (List (List (BitVec 32)))) (fun i s nx_ => syllogistref_Round_b25 n_0 m_1 chains_2 i s nx_) (fun s => syllogistref_Round_k19 s) (n_0 - (0 : Int)).toNat (0 : Int) (([] : List (List (BitVec 32)))) else none

set_option maxRecDepth 100000 in
theorem syllogistref_Round_ok (w0 : World) (m : Snap) (l : List HI) (n_0 : Int) (um_1 : Value) (m_1 : List (List (BitVec 32))) (hm_1 : RS (Rp.slice rU) m um_1 m_1) (uchains_2 : Value) (chains_2 : List Chain) (hchains_2 : RS rChain m uchains_2 chains_2) (r : (List (List (BitVec 32)))) (hr : syllogistref_Round n_0 m_1 chains_2 = some r) (w : World) (hc : cX w0 ⟨m, l⟩ w) :
    Calls Try.prog 20 [.int .i64 n_0, um_1, uchains_2].toArray w fun e w' => ∃ z0 : Value, ∃ m1 : Snap, e = .returned (z0) ∧ Sle m m1 ∧ RS (Rp.slice rU) m1 z0 r ∧ cX w0 ⟨m1, l⟩ w' := by
  unfold syllogistref_Round at hr
  refine calls_of_Tr (N := 79) Try.func20 rfl hc rfl (Nat.le_of_ble_eq_true rfl) ?_
  refine Tr.seq ?_
  refine Tr.region_f (fun _ => false) ?_
  refine W.q rfl rfl rfl rfl (by decide) (Yd.as rfl .c) ?_
  refine W.end ?_
  refine NX.sub (env' := [(0, _), (1, _), (2, _)]) ⟨rfl, rfl, rfl, trivial⟩ ?_
  refine NX.then ?_
  refine Tr.seq ?_
  refine Tr.region_f (fun _ => false) ?_
  refine W.q rfl rfl rfl rfl (by decide) (Yd.as rfl .c) ?_
  refine W.end ?_
  refine NX.sub (env' := [(0, _), (1, _), (2, _), (7, _)]) ⟨rfl, rfl, rfl, rfl, trivial⟩ ?_
  refine NX.then ?_
  refine Tr.seq ?_
  refine Tr.seq ?_
  refine Tr.region_f (fun _ => false) ?_
  refine W.q rfl rfl rfl rfl (by decide) (Yd.as rfl .c) ?_
  refine W.end ?_
  refine NX.sub (env' := [(0, _), (1, _), (2, _), (7, _), (8, _)]) ⟨rfl, rfl, rfl, rfl, rfl, trivial⟩ ?_
  refine NX.then ?_
  refine Tr.addnil 38 1 ?_
  refine Tr.join (S := fun env x => ∃ l14 : List (List (BitVec 32)), ∃ m18 : Snap, ∃ v15 : Value, ∃ us16 : List Value, Sle m m18 ∧ Rows rU m18 us16 l14 ∧ env = [(7, v15)] ∧ x = ⟨m18, hown 38 1 v15 l14.length us16 :: l⟩ ∧ syllogistref_Round_k19 l14 = some r) ?_ (fun hk20 => ?_)
  · rintro _ _ ⟨l14, m18, v15, us16, hsm18, hw17, rfl, rfl, hr⟩
    unfold syllogistref_Round_k19 at hr
    try dsimp only at hr
    have hm_1 := hm_1.mono hsm18
    have hchains_2 := hchains_2.mono hsm18
    refine NX.then ?_
    refine Tr.seq ?_
    refine Tr.region_f (fun _ => false) ?_
    refine W.q rfl rfl rfl rfl (by decide) (Yd.mv rfl (.t rfl)) ?_
    refine W.q rfl rfl rfl rfl (by decide) (Yd.as rfl (.t rfl)) ?_
    refine W.end ?_
    refine NX.sub (env' := [(6, _)]) ⟨rfl, trivial⟩ ?_
    refine NX.then ?_
    refine Tr.ret' ?_
    refine res1 rfl rfl ?_
    intro w hc
    cases hr
    obtain ⟨m21, hsm21, hu22, hc⟩ := cX_freezeR (p := 0) hc hw17 rfl
    have hm_1 := hm_1.mono hsm21
    have hchains_2 := hchains_2.mono hsm21
    have hw17 := hw17.mono hsm21
    exact ⟨_, _, rfl, (hsm18.trans hsm21), hu22, hc⟩
  obtain ⟨hle23, hr⟩ := guard_some hr; replace hle23 := of_decide_eq_true hle23
  refine Tr.block ?_
  refine Tr.sub (env' := [(0, _), (1, _), (2, _), (7, _), (8, _)]) ⟨rfl, rfl, rfl, rfl, rfl, trivial⟩ ?_
  refine Tr.loop (S := fun n (z : Int × (List (List (BitVec 32)))) env x => match z with | (i_24, l9) => ∃ m13 : Snap, ∃ v10 : Value, ∃ us11 : List Value, Sle m m13 ∧ Rows rU m13 us11 l9 ∧ env = [(0, .int .i64 n_0), (1, um_1), (2, uchains_2), (7, v10), (8, .int .i64 i_24)] ∧ x = ⟨m13, hown 38 1 v10 l9.length us11 :: l⟩ ∧ n = (n_0 - i_24).toNat ∧ 0 ≤ i_24 ∧ forK (σ := (List (List (BitVec 32)))) (fun i s nx_ => syllogistref_Round_b25 n_0 m_1 chains_2 i s nx_) (fun s => syllogistref_Round_k19 s) n i_24 l9 = some r) _ ((0 : Int), ([] : List (List (BitVec 32)))) ⟨_, _, _, (.refl _), (Rows.nil _ _), rfl, rfl, rfl, (by omega), hr⟩ ?_
  rintro n27 ⟨i_24, l9⟩ env x ⟨m13, v10, us11, hsm13, hw12, rfl, rfl, hni_24, h0i_24, hr⟩
  have hm_1 := hm_1.mono hsm13
  have hchains_2 := hchains_2.mono hsm13
  cases n27 with
  | zero =>
    simp only [forK] at hr
    refine Tr.seq ?_
    refine Tr.seq ?_
    refine Tr.region_f (fun _ => false) ?_
    refine W.q rfl rfl rfl rfl (by decide) (Yd.mv rfl (.t rfl)) ?_
    refine W.q rfl rfl rfl rfl (by decide) (Yd.mv rfl (.t rfl)) ?_
    refine W.q rfl rfl rfl rfl (by decide) (Yd.lss rfl (.t rfl) (.t rfl)) ?_
    refine W.end ?_
    refine NX.sub (env' := [(0, _), (1, _), (2, _), (7, _), (8, _), (16, _)]) ⟨rfl, rfl, rfl, rfl, rfl, rfl, trivial⟩ ?_
    refine NX.then ?_
    refine Tr.cond (.t rfl) (fun hb => ?_) (fun hb => ?_)
    · exact absurd (hb.symm.trans (fr_end hni_24)) (by decide)
    ·
      refine Tr.exit' (EX.then (EX.then (EX.block ?_)))
      refine NX.sub (env' := [(7, _)]) ⟨rfl, trivial⟩ ?_
      exact hk20 _ _ ⟨_, _, _, _, hsm13, hw12, rfl, rfl, hr⟩
  | succ n27 =>
    obtain ⟨nx26, hnx26, hr⟩ := forK_succ hr
    try dsimp only at hr
    unfold syllogistref_Round_b25 at hr
    try dsimp only at hr
    have hlti_24 := fr_bnd hni_24
    refine Tr.seq ?_
    refine Tr.seq ?_
    refine Tr.region_f (fun _ => false) ?_
    refine W.q rfl rfl rfl rfl (by decide) (Yd.mv rfl (.t rfl)) ?_
    refine W.q rfl rfl rfl rfl (by decide) (Yd.mv rfl (.t rfl)) ?_
    refine W.q rfl rfl rfl rfl (by decide) (Yd.lss rfl (.t rfl) (.t rfl)) ?_
    refine W.end ?_
    refine NX.sub (env' := [(0, _), (1, _), (2, _), (7, _), (8, _), (16, _)]) ⟨rfl, rfl, rfl, rfl, rfl, rfl, trivial⟩ ?_
    refine NX.then ?_
    refine Tr.cond (.t rfl) (fun hb => ?_) (fun hb => ?_)
    rotate_left
    · exact absurd (hb.symm.trans (fr_go hni_24)) (by decide)
    ·
      refine Tr.skip' ?_
      refine NX.then ?_
      refine Tr.seq ?_
      refine Tr.block ?_
      refine Tr.seq ?_
      obtain ⟨y30, hy31, hr⟩ := bind_some hr
      obtain ⟨hq36, hr⟩ := guard_some hr; replace hq36 := of_decide_eq_true hq36
      refine Tr.region_f (fun i => Nat.beq i 0 || Nat.beq i 5) ?_
      refine W.e rfl rfl rfl rfl (by decide) (Ef.bsT (enc := encU) (vs := []) (ys := []) (fun _ => rfl) IF33 rfl Try.underlying38 (by decide) rfl .nil rfl rfl (by decide)) ?_
      rintro v28 _ rfl
      refine ⟨.inl rfl, ?_⟩
      refine W.cast (m' := m13) (l' := hownT 33 1 encU v28 _ :: hown 38 1 v10 _ _ :: l) rfl rfl ?_
      refine W.q rfl rfl rfl rfl (by decide) (Yd.mv rfl (.t rfl)) ?_
      refine W.q rfl rfl rfl rfl (by decide) (Yd.mv rfl (.t rfl)) ?_
      refine W.q rfl rfl rfl rfl (by decide) (Yd.idxR hm_1 hy31 rfl Try.underlying23 SZ38 (.t rfl) (.t rfl)) ?_
      obtain ⟨u32, hu33, hat34⟩ := hm_1.row hy31
      refine W.q rfl rfl rfl rfl (by decide) (Yd.ldRow hat34 (.refl _) rfl ON38 (.t rfl)) ?_
      refine W.e rfl rfl rfl rfl (by decide) (Ef.apI (pos := 0) (enc := encU) (xs := ([] : List (BitVec 32))) (ys := y30) (fun _ => rfl) IF33 rfl rfl Try.underlying38 rfl (by decide) (.t rfl) (.t rfl) (Src.rs (by decide) (.refl _) hu33) (fun _ => rfl) (by omega) (by omega)) ?_
      rintro v35 _ rfl
      refine ⟨.inl rfl, ?_⟩
      refine W.cast (m' := m13) (l' := hownT 33 1 encU v35 _ :: hown 38 1 v10 _ _ :: l) rfl rfl ?_
      refine W.q rfl rfl rfl rfl (by decide) (Yd.as rfl (.t rfl)) ?_
      refine W.end ?_
      refine NX.sub (env' := [(0, _), (1, _), (2, _), (7, _), (8, _), (9, _)]) ⟨rfl, rfl, rfl, rfl, rfl, rfl, trivial⟩ ?_
      refine NX.then ?_
      refine Tr.seq ?_
      refine Tr.seq ?_
      refine Tr.region_f (fun _ => false) ?_
      refine W.q rfl rfl rfl rfl (by decide) (Yd.as rfl .c) ?_
      refine W.end ?_
      refine NX.sub (env' := [(0, _), (1, _), (2, _), (7, _), (8, _), (9, _), (10, _)]) ⟨rfl, rfl, rfl, rfl, rfl, rfl, rfl, trivial⟩ ?_
      refine NX.then ?_
      refine Tr.join (S := fun env x => ∃ l43 : List (BitVec 32), ∃ v44 : Value, env = [(0, .int .i64 n_0), (1, um_1), (2, uchains_2), (7, v10), (8, .int .i64 i_24), (9, v44)] ∧ x = ⟨m13, hownT 33 1 encU v44 l43 :: hown 38 1 v10 l9.length us11 :: l⟩ ∧ syllogistref_Round_k45 l9 nx26 l43 = some r) ?_ (fun hk46 => ?_)
      · rintro _ _ ⟨l43, v44, rfl, rfl, hr⟩
        unfold syllogistref_Round_k45 at hr
        try dsimp only at hr
        refine NX.then ?_
        refine Tr.freezeT (enc := encU) (n := 1) (pos := 0) (fun _ => rfl) rfl (fun m47 hsm47 hu48 => ?_)
        have hm_1 := hm_1.mono hsm47
        have hchains_2 := hchains_2.mono hsm47
        have hw12 := hw12.mono hsm47
        have hu33 := hu33.mono hsm47
        refine Tr.cast (m' := m47) (l' := hown 38 1 v10 _ _ :: l) rfl rfl ?_
        obtain ⟨hq52, hr⟩ := guard_some hr; replace hq52 := of_decide_eq_true hq52
        refine Tr.region_f (fun i => Nat.beq i 2 || Nat.beq i 3) ?_
        refine W.q rfl rfl rfl rfl (by decide) (Yd.mv rfl (.t rfl)) ?_
        refine W.q rfl rfl rfl rfl (by decide) (Yd.mv rfl (.t rfl)) ?_
        refine W.e rfl rfl rfl rfl (by decide) (Ef.bsR hu48 IF38 rfl Try.underlying23 (.cons (.t rfl) .nil)) ?_
        rintro v49 _ rfl
        refine ⟨.inl rfl, ?_⟩
        refine W.cast (m' := m47) (l' := hown 38 1 v49 _ _ :: hown 38 1 v10 _ _ :: l) rfl rfl ?_
        refine W.e rfl rfl rfl rfl (by decide) (Ef.apR (pos := 1) (pos2 := 0) IF38 rfl hu48 rfl rfl Try.underlying23 rfl (.t rfl) (.t rfl) (by omega) (by omega)) ?_
        rintro v51 _ rfl
        refine ⟨.inl rfl, ?_⟩
        refine W.cast (m' := m47) (l' := hown 38 1 v49 _ _ :: hown 38 1 v51 _ _ :: l) rfl rfl ?_
        refine W.q rfl rfl rfl rfl (by decide) (Yd.as rfl (.t rfl)) ?_
        refine W.end ?_
        refine NX.sub (env' := [(0, _), (1, _), (2, _), (7, _), (8, _)]) ⟨rfl, rfl, rfl, rfl, rfl, trivial⟩ ?_
        refine NX.drop (l' := hown 38 1 v51 _ _ :: l) (.cons _ (.cons_cons _ (.refl _))) ?_
        refine NX.block ?_
        refine NX.then ?_
        refine Tr.region_f (fun _ => false) ?_
        refine W.q rfl rfl rfl rfl (by decide) (Yd.mv rfl (.t rfl)) ?_
        refine W.q rfl rfl rfl rfl (by decide) (Yd.add rfl (.t rfl) .c) ?_
        refine W.q rfl rfl rfl rfl (by decide) (Yd.as rfl (.t rfl)) ?_
        refine W.end ?_
        refine NX.sub (env' := [(0, _), (1, _), (2, _), (7, _), (8, _)]) ⟨rfl, rfl, rfl, rfl, rfl, trivial⟩ ?_
        refine NX.sub (env' := [(0, _), (1, _), (2, _), (7, _), (8, _)]) ⟨rfl, rfl, rfl, rfl, rfl, trivial⟩ ?_
        have hw := w64_id (n := i_24 + 1) (by omega) (by omega)
        exact NX.again n27 (i_24 + 1, (l9 ++ [l43])) (Nat.lt_succ_self _) ⟨_, _, _, (hsm13.trans hsm47), (Rows.snoc hw12 hu48), (by rw [hw] <;> rfl), rfl, (fr_dec hni_24), (by omega), ((hnx26 _).symm.trans hr)⟩
      obtain ⟨hle53, hr⟩ := guard_some hr; replace hle53 := of_decide_eq_true hle53
      refine Tr.block ?_
      refine Tr.sub (env' := [(0, _), (1, _), (2, _), (7, _), (8, _), (9, _), (10, _)]) ⟨rfl, rfl, rfl, rfl, rfl, rfl, rfl, trivial⟩ ?_
      refine Tr.loop (S := fun n (z : Int × (List (BitVec 32))) env x => match z with | (k_54, l41) => ∃ v42 : Value, env = [(0, .int .i64 n_0), (1, um_1), (2, uchains_2), (7, v10), (8, .int .i64 i_24), (9, v42), (10, .int .i64 k_54)] ∧ x = ⟨m13, hownT 33 1 encU v42 l41 :: hown 38 1 v10 l9.length us11 :: l⟩ ∧ n = (n_0 - k_54).toNat ∧ 0 ≤ k_54 ∧ forK (σ := (List (BitVec 32))) (fun i s nx_ => syllogistref_Round_b55 n_0 m_1 chains_2 i_24 i s nx_) (fun s => syllogistref_Round_k45 l9 nx26 s) n k_54 l41 = some r) _ ((0 : Int), (([] : List (BitVec 32)) ++ y30)) ⟨_, rfl, rfl, rfl, (by omega), hr⟩ ?_
      rintro n57 ⟨k_54, l41⟩ env x ⟨v42, rfl, rfl, hnk_54, h0k_54, hr⟩
      cases n57 with
      | zero =>
        simp only [forK] at hr
        refine Tr.seq ?_
        refine Tr.seq ?_
        refine Tr.region_f (fun _ => false) ?_
        refine W.q rfl rfl rfl rfl (by decide) (Yd.mv rfl (.t rfl)) ?_
        refine W.q rfl rfl rfl rfl (by decide) (Yd.mv rfl (.t rfl)) ?_
        refine W.q rfl rfl rfl rfl (by decide) (Yd.lss rfl (.t rfl) (.t rfl)) ?_
        refine W.end ?_
        refine NX.sub (env' := [(0, _), (1, _), (2, _), (7, _), (8, _), (9, _), (10, _), (27, _)]) ⟨rfl, rfl, rfl, rfl, rfl, rfl, rfl, rfl, trivial⟩ ?_
        refine NX.then ?_
        refine Tr.cond (.t rfl) (fun hb => ?_) (fun hb => ?_)
        · exact absurd (hb.symm.trans (fr_end hnk_54)) (by decide)
        ·
          refine Tr.exit' (EX.then (EX.then (EX.block ?_)))
          refine NX.sub (env' := [(0, _), (1, _), (2, _), (7, _), (8, _), (9, _)]) ⟨rfl, rfl, rfl, rfl, rfl, rfl, trivial⟩ ?_
          exact hk46 _ _ ⟨_, _, rfl, rfl, hr⟩
      | succ n57 =>
        obtain ⟨nx56, hnx56, hr⟩ := forK_succ hr
        try dsimp only at hr
        unfold syllogistref_Round_b55 at hr
        try dsimp only at hr
        have hltk_54 := fr_bnd hnk_54
        refine Tr.seq ?_
        refine Tr.seq ?_
        refine Tr.region_f (fun _ => false) ?_
        refine W.q rfl rfl rfl rfl (by decide) (Yd.mv rfl (.t rfl)) ?_
        refine W.q rfl rfl rfl rfl (by decide) (Yd.mv rfl (.t rfl)) ?_
        refine W.q rfl rfl rfl rfl (by decide) (Yd.lss rfl (.t rfl) (.t rfl)) ?_
        refine W.end ?_
        refine NX.sub (env' := [(0, _), (1, _), (2, _), (7, _), (8, _), (9, _), (10, _), (27, _)]) ⟨rfl, rfl, rfl, rfl, rfl, rfl, rfl, rfl, trivial⟩ ?_
        refine NX.then ?_
        refine Tr.cond (.t rfl) (fun hb => ?_) (fun hb => ?_)
        rotate_left
        · exact absurd (hb.symm.trans (fr_go hnk_54)) (by decide)
        ·
          refine Tr.skip' ?_
          refine NX.then ?_
          refine Tr.seq ?_
          refine Tr.block ?_
          refine Tr.seq ?_
          refine Tr.region_f (fun _ => false) ?_
          refine W.q rfl rfl rfl rfl (by decide) (Yd.as rfl .c) ?_
          refine W.end ?_
          refine NX.sub (env' := [(0, _), (1, _), (2, _), (7, _), (8, _), (9, _), (10, _), (11, _)]) ⟨rfl, rfl, rfl, rfl, rfl, rfl, rfl, rfl, trivial⟩ ?_
          refine NX.then ?_
          refine Tr.join (S := fun env x => ∃ l64 : List (BitVec 32), ∃ v65 : Value, env = [(0, .int .i64 n_0), (1, um_1), (2, uchains_2), (7, v10), (8, .int .i64 i_24), (9, v65), (10, .int .i64 k_54)] ∧ x = ⟨m13, hownT 33 1 encU v65 l64 :: hown 38 1 v10 l9.length us11 :: l⟩ ∧ syllogistref_Round_k66 nx56 l64 = some r) ?_ (fun hk67 => ?_)
          · rintro _ _ ⟨l64, v65, rfl, rfl, hr⟩
            unfold syllogistref_Round_k66 at hr
            try dsimp only at hr
            refine NX.block ?_
            refine NX.then ?_
            refine Tr.region_f (fun _ => false) ?_
            refine W.q rfl rfl rfl rfl (by decide) (Yd.mv rfl (.t rfl)) ?_
            refine W.q rfl rfl rfl rfl (by decide) (Yd.add rfl (.t rfl) .c) ?_
            refine W.q rfl rfl rfl rfl (by decide) (Yd.as rfl (.t rfl)) ?_
            refine W.end ?_
            refine NX.sub (env' := [(0, _), (1, _), (2, _), (7, _), (8, _), (9, _), (10, _)]) ⟨rfl, rfl, rfl, rfl, rfl, rfl, rfl, trivial⟩ ?_
            refine NX.sub (env' := [(0, _), (1, _), (2, _), (7, _), (8, _), (9, _), (10, _)]) ⟨rfl, rfl, rfl, rfl, rfl, rfl, rfl, trivial⟩ ?_
            have hw := w64_id (n := k_54 + 1) (by omega) (by omega)
            exact NX.again n57 (k_54 + 1, l64) (Nat.lt_succ_self _) ⟨_, (by rw [hw] <;> rfl), rfl, (fr_dec hnk_54), (by omega), ((hnx56 _).symm.trans hr)⟩
          obtain ⟨hle68, hr⟩ := guard_some hr; replace hle68 := of_decide_eq_true hle68
          refine Tr.block ?_
          refine Tr.sub (env' := [(0, _), (1, _), (2, _), (7, _), (8, _), (9, _), (10, _), (11, _)]) ⟨rfl, rfl, rfl, rfl, rfl, rfl, rfl, rfl, trivial⟩ ?_
          refine Tr.loop (S := fun n (z : Int × (List (BitVec 32))) env x => match z with | (j_69, l62) => ∃ v63 : Value, env = [(0, .int .i64 n_0), (1, um_1), (2, uchains_2), (7, v10), (8, .int .i64 i_24), (9, v63), (10, .int .i64 k_54), (11, .int .i64 j_69)] ∧ x = ⟨m13, hownT 33 1 encU v63 l62 :: hown 38 1 v10 l9.length us11 :: l⟩ ∧ n = (n_0 - j_69).toNat ∧ 0 ≤ j_69 ∧ forK (σ := (List (BitVec 32))) (fun i s nx_ => syllogistref_Round_b70 m_1 chains_2 i_24 k_54 i s nx_) (fun s => syllogistref_Round_k66 nx56 s) n j_69 l62 = some r) _ ((0 : Int), l41) ⟨_, rfl, rfl, rfl, (by omega), hr⟩ ?_
          rintro n72 ⟨j_69, l62⟩ env x ⟨v63, rfl, rfl, hnj_69, h0j_69, hr⟩
          cases n72 with
          | zero =>
            simp only [forK] at hr
            refine Tr.seq ?_
            refine Tr.seq ?_
            refine Tr.region_f (fun _ => false) ?_
            refine W.q rfl rfl rfl rfl (by decide) (Yd.mv rfl (.t rfl)) ?_
            refine W.q rfl rfl rfl rfl (by decide) (Yd.mv rfl (.t rfl)) ?_
            refine W.q rfl rfl rfl rfl (by decide) (Yd.lss rfl (.t rfl) (.t rfl)) ?_
            refine W.end ?_
            refine NX.sub (env' := [(0, _), (1, _), (2, _), (7, _), (8, _), (9, _), (10, _), (11, _), (32, _)]) ⟨rfl, rfl, rfl, rfl, rfl, rfl, rfl, rfl, rfl, trivial⟩ ?_
            refine NX.then ?_
            refine Tr.cond (.t rfl) (fun hb => ?_) (fun hb => ?_)
            · exact absurd (hb.symm.trans (fr_end hnj_69)) (by decide)
            ·
              refine Tr.exit' (EX.then (EX.then (EX.block ?_)))
              refine NX.sub (env' := [(0, _), (1, _), (2, _), (7, _), (8, _), (9, _), (10, _)]) ⟨rfl, rfl, rfl, rfl, rfl, rfl, rfl, trivial⟩ ?_
              exact hk67 _ _ ⟨_, _, rfl, rfl, hr⟩
          | succ n72 =>
            obtain ⟨nx71, hnx71, hr⟩ := forK_succ hr
            try dsimp only at hr
            unfold syllogistref_Round_b70 at hr
            try dsimp only at hr
            have hltj_69 := fr_bnd hnj_69
            refine Tr.seq ?_
            refine Tr.seq ?_
            refine Tr.region_f (fun _ => false) ?_
            refine W.q rfl rfl rfl rfl (by decide) (Yd.mv rfl (.t rfl)) ?_
            refine W.q rfl rfl rfl rfl (by decide) (Yd.mv rfl (.t rfl)) ?_
            refine W.q rfl rfl rfl rfl (by decide) (Yd.lss rfl (.t rfl) (.t rfl)) ?_
            refine W.end ?_
            refine NX.sub (env' := [(0, _), (1, _), (2, _), (7, _), (8, _), (9, _), (10, _), (11, _), (32, _)]) ⟨rfl, rfl, rfl, rfl, rfl, rfl, rfl, rfl, rfl, trivial⟩ ?_
            refine NX.then ?_
            refine Tr.cond (.t rfl) (fun hb => ?_) (fun hb => ?_)
            rotate_left
            · exact absurd (hb.symm.trans (fr_go hnj_69)) (by decide)
            ·
              refine Tr.skip' ?_
              refine NX.then ?_
              refine Tr.seq ?_
              refine Tr.block ?_
              refine Tr.seq ?_
              refine Tr.region_f (fun _ => false) ?_
              refine W.q rfl rfl rfl rfl (by decide) (Yd.mv rfl (.t rfl)) ?_
              refine W.q rfl rfl rfl rfl (by decide) (Yd.lenR hchains_2 rfl Try.underlying24 (.t rfl)) ?_
              refine W.q rfl rfl rfl rfl (by decide) (Yd.mv rfl .c) ?_
              refine W.end ?_
              refine NX.sub (env' := [(0, _), (1, _), (2, _), (7, _), (8, _), (9, _), (10, _), (11, _), (35, _), (36, _), (37, _)]) ⟨rfl, rfl, rfl, rfl, rfl, rfl, rfl, rfl, rfl, rfl, rfl, trivial⟩ ?_
              refine NX.then ?_
              refine Tr.join (S := fun env x => ∃ l79 : List (BitVec 32), ∃ v80 : Value, env = [(0, .int .i64 n_0), (1, um_1), (2, uchains_2), (7, v10), (8, .int .i64 i_24), (9, v80), (10, .int .i64 k_54), (11, .int .i64 j_69)] ∧ x = ⟨m13, hownT 33 1 encU v80 l79 :: hown 38 1 v10 l9.length us11 :: l⟩ ∧ syllogistref_Round_k81 nx71 l79 = some r) ?_ (fun hk82 => ?_)
              · rintro _ _ ⟨l79, v80, rfl, rfl, hr⟩
                unfold syllogistref_Round_k81 at hr
                try dsimp only at hr
                refine NX.block ?_
                refine NX.then ?_
                refine Tr.region_f (fun _ => false) ?_
                refine W.q rfl rfl rfl rfl (by decide) (Yd.mv rfl (.t rfl)) ?_
                refine W.q rfl rfl rfl rfl (by decide) (Yd.add rfl (.t rfl) .c) ?_
                refine W.q rfl rfl rfl rfl (by decide) (Yd.as rfl (.t rfl)) ?_
                refine W.end ?_
                refine NX.sub (env' := [(0, _), (1, _), (2, _), (7, _), (8, _), (9, _), (10, _), (11, _)]) ⟨rfl, rfl, rfl, rfl, rfl, rfl, rfl, rfl, trivial⟩ ?_
                refine NX.sub (env' := [(0, _), (1, _), (2, _), (7, _), (8, _), (9, _), (10, _), (11, _)]) ⟨rfl, rfl, rfl, rfl, rfl, rfl, rfl, rfl, trivial⟩ ?_
                have hw := w64_id (n := j_69 + 1) (by omega) (by omega)
                exact NX.again n72 (j_69 + 1, l79) (Nat.lt_succ_self _) ⟨_, (by rw [hw] <;> rfl), rfl, (fr_dec hnj_69), (by omega), ((hnx71 _).symm.trans hr)⟩
              have hlen83 := (hchains_2).2.1
              refine Tr.block ?_
              refine Tr.sub (env' := [(0, _), (1, _), (2, _), (7, _), (8, _), (9, _), (10, _), (11, _), (35, _), (36, _), (37, _)]) ⟨rfl, rfl, rfl, rfl, rfl, rfl, rfl, rfl, rfl, rfl, rfl, trivial⟩ ?_
              refine Tr.loop (S := fun n (z : Int × (List (BitVec 32))) env x => match z with | (t_84, l77) => ∃ v78 : Value, env = [(0, .int .i64 n_0), (1, um_1), (2, uchains_2), (7, v10), (8, .int .i64 i_24), (9, v78), (10, .int .i64 k_54), (11, .int .i64 j_69), (35, uchains_2), (36, .int .i64 ((chains_2.length : Int))), (37, .int .i64 t_84)] ∧ x = ⟨m13, hownT 33 1 encU v78 l77 :: hown 38 1 v10 l9.length us11 :: l⟩ ∧ n = ((chains_2.length : Int) - t_84).toNat ∧ 0 ≤ t_84 ∧ forK (σ := (List (BitVec 32))) (fun i s nx_ => syllogistref_Round_b85 m_1 chains_2 i_24 k_54 j_69 i s nx_) (fun s => syllogistref_Round_k81 nx71 s) n t_84 l77 = some r) _ ((0 : Int), l62) ⟨_, rfl, rfl, rfl, (by omega), hr⟩ ?_
              rintro n87 ⟨t_84, l77⟩ env x ⟨v78, rfl, rfl, hnt_84, h0t_84, hr⟩
              cases n87 with
              | zero =>
                simp only [forK] at hr
                refine Tr.seq ?_
                refine Tr.region_f (fun _ => false) ?_
                refine W.q rfl rfl rfl rfl (by decide) (Yd.lss rfl (.t rfl) (.t rfl)) ?_
                refine W.end ?_
                refine NX.sub (env' := [(0, _), (1, _), (2, _), (7, _), (8, _), (9, _), (10, _), (11, _), (35, _), (36, _), (37, _), (38, _)]) ⟨rfl, rfl, rfl, rfl, rfl, rfl, rfl, rfl, rfl, rfl, rfl, rfl, trivial⟩ ?_
                refine NX.then ?_
                refine Tr.seq ?_
                refine Tr.cond (.t rfl) (fun hb => ?_) (fun hb => ?_)
                · exact absurd (hb.symm.trans (fr_end hnt_84)) (by decide)
                ·
                  refine Tr.exit' (EX.then (EX.then (EX.block ?_)))
                  refine NX.sub (env' := [(0, _), (1, _), (2, _), (7, _), (8, _), (9, _), (10, _), (11, _)]) ⟨rfl, rfl, rfl, rfl, rfl, rfl, rfl, rfl, trivial⟩ ?_
                  exact hk82 _ _ ⟨_, _, rfl, rfl, hr⟩
              | succ n87 =>
                obtain ⟨nx86, hnx86, hr⟩ := forK_succ hr
                try dsimp only at hr
                unfold syllogistref_Round_b85 at hr
                try dsimp only at hr
                have hltt_84 := fr_bnd hnt_84
                refine Tr.seq ?_
                refine Tr.region_f (fun _ => false) ?_
                refine W.q rfl rfl rfl rfl (by decide) (Yd.lss rfl (.t rfl) (.t rfl)) ?_
                refine W.end ?_
                refine NX.sub (env' := [(0, _), (1, _), (2, _), (7, _), (8, _), (9, _), (10, _), (11, _), (35, _), (36, _), (37, _), (38, _)]) ⟨rfl, rfl, rfl, rfl, rfl, rfl, rfl, rfl, rfl, rfl, rfl, rfl, trivial⟩ ?_
                refine NX.then ?_
                refine Tr.seq ?_
                refine Tr.cond (.t rfl) (fun hb => ?_) (fun hb => ?_)
                rotate_left
                · exact absurd (hb.symm.trans (fr_go hnt_84)) (by decide)
                ·
                  refine Tr.skip' ?_
                  refine NX.then ?_
                  refine Tr.seq ?_
                  refine Tr.block ?_
                  refine Tr.seq ?_
                  obtain ⟨y88, hy89, hr⟩ := bind_some hr
                  refine Tr.region_f (fun i => Nat.beq i 2 || Nat.beq i 3) ?_
                  refine W.q rfl rfl rfl rfl (by decide) (Yd.idxR hchains_2 hy89 rfl Try.underlying24 SZ94 (.t rfl) (.t rfl)) ?_
                  refine W.q rfl rfl rfl rfl (by decide) (Yd.ldFs (us := [_, _, _]) hchains_2 (.refl _) hy89 rfl rfl ON94 US94 SZ94 (.t rfl)) ?_
                  refine W.e rfl rfl rfl rfl (by decide) (Ef.al rfl ZR94 rfl) ?_
                  rintro _ _ ⟨b90, rfl, rfl⟩
                  refine ⟨.inl rfl, ?_⟩
                  refine W.cast (m' := m13) (l' := hcells b90 [_, _, _] 94 :: hownT 33 1 encU v78 _ :: hown 38 1 v10 _ _ :: l) rfl rfl ?_
                  refine W.s rfl rfl rfl rfl (Ef.stB (pos := 0) (us := [_, _, _]) (cs' := [_, _, _]) rfl rfl (.t rfl) (.t rfl) SZ94 rfl rfl rfl (Nat.le_of_ble_eq_true rfl) rfl) ?_
                  rintro _ _ ⟨rfl, rfl⟩
                  refine ⟨.inl rfl, ?_⟩
                  refine W.cast (m' := m13) (l' := hcells b90 [_, _, _] 94 :: hownT 33 1 encU v78 _ :: hown 38 1 v10 _ _ :: l) rfl rfl ?_
                  refine W.end ?_
                  refine NX.sub (env' := [(0, _), (1, _), (2, _), (7, _), (8, _), (9, _), (10, _), (11, _), (35, _), (36, _), (37, _), (13, _)]) ⟨rfl, rfl, rfl, rfl, rfl, rfl, rfl, rfl, rfl, rfl, rfl, rfl, trivial⟩ ?_
                  refine NX.then ?_
                  refine Tr.seq ?_
                  obtain ⟨y92, hy93, hr⟩ := bind_some hr
                  obtain ⟨y97, hy98, hr⟩ := bind_some hr
                  obtain ⟨r99, hr100, hr⟩ := bind_some hr
                  obtain ⟨ha101, hr⟩ := guard_some hr
                  obtain ⟨ha105, hr⟩ := guard_some hr
                  obtain ⟨ha106, hr⟩ := guard_some hr
                  refine Tr.region_x (fun _ => false) (fun _ => false) (Ord.of [0, 1, 2, 3, 4, 5, 6, 7, 8, 9, 10, 11, 12, 13, 14, 15, 16, 17, 18, 19, 20, 21]) FM (by kernel_rfl) ?_
                  refine W.q rfl rfl rfl rfl (by decide) (Yd.fldB rfl Try.underlying94 rfl SZ33 rfl (.t rfl)) ?_
                  refine W.q rfl rfl rfl rfl (by decide) (Yd.ldB (pos := 0) rfl rfl rfl ON33 (.t rfl)) ?_
                  refine W.q rfl rfl rfl rfl (by decide) (Yd.mv rfl (.t rfl)) ?_
                  refine W.q rfl rfl rfl rfl (by decide) (Yd.mv rfl (.t rfl)) ?_
                  refine W.q rfl rfl rfl rfl (by decide) (Yd.idxR hm_1 hy93 rfl Try.underlying23 SZ38 (.t rfl) (.t rfl)) ?_
                  obtain ⟨u94, hu95, hat96⟩ := hm_1.row hy93
                  refine W.q rfl rfl rfl rfl (by decide) (Yd.ldRow hat96 (.refl _) rfl ON38 (.t rfl)) ?_
                  refine W.q rfl rfl rfl rfl (by decide) (Yd.mv rfl (.t rfl)) ?_
                  refine W.q rfl rfl rfl rfl (by decide) (Yd.idxR hu95 hy98 rfl Try.underlying38 SZ33 (.t rfl) (.t rfl)) ?_
                  refine W.q rfl rfl rfl rfl (by decide) (Yd.ldF hu95 (.refl _) hy98 rfl rfl ON33 (.t rfl)) ?_
                  refine W.q rfl rfl rfl rfl (by decide) (Yd.call (v := .bool r99) rfl Try.func19 rfl rfl (.cons (.t rfl) (.cons (.t rfl) .nil)) (fun x' hx w hw => syllogistref_In_ok w0 x'.m x'.l y88.a y97 _ hr100 w hw)) ?_
                  refine W.q rfl rfl rfl rfl (by decide) (Yd.mv rfl (.t rfl)) ?_
                  refine W.g rfl rfl rfl rfl rfl (.t rfl _) rfl (by decide) (fun hG => Yd.fldB rfl Try.underlying94 rfl SZ33 rfl (.t rfl)) ?_
                  refine W.g rfl rfl rfl rfl rfl (.t rfl _) rfl (by decide) (fun hG => Yd.ldB (pos := 0) rfl rfl rfl ON33 (.g rfl hG)) ?_
                  refine W.g rfl rfl rfl rfl rfl (.t rfl _) rfl (by decide) (fun hG => Yd.mv rfl (.t rfl)) ?_
                  refine W.g rfl rfl rfl rfl rfl (.t rfl _) rfl (by decide) (fun hG => Yd.mv rfl (.t rfl)) ?_
                  refine W.g rfl rfl rfl rfl rfl (.t rfl _) rfl (by decide) (fun hG => Yd.idxR hm_1 (gd_get (d := []) ha101 hG) rfl Try.underlying23 SZ38 (.g rfl hG) (.g rfl hG)) ?_
                  obtain ⟨u102, hu103⟩ := RS.rowD hm_1 (i := j_69)
                  refine W.g rfl rfl rfl rfl rfl (.t rfl _) rfl (by decide) (fun hG => Yd.ldRow (hu103 _ (gd_get (d := []) ha101 hG)).2 (.refl _) rfl ON38 (.g rfl hG)) ?_
                  refine W.g rfl rfl rfl rfl rfl (.t rfl _) rfl (by decide) (fun hG => Yd.mv rfl (.t rfl)) ?_
                  refine W.g rfl rfl rfl rfl rfl (.t rfl _) rfl (by decide) (fun hG => Yd.idxR (hu103 _ (gd_get (d := []) ha101 hG)).1 (gd_get (d := (0#32)) ha105 hG) rfl Try.underlying38 SZ33 (.g rfl hG) (.g rfl hG)) ?_
                  refine W.g rfl rfl rfl rfl rfl (.t rfl _) rfl (by decide) (fun hG => Yd.ldF (hu103 _ (gd_get (d := []) ha101 hG)).1 (.refl _) (gd_get (d := (0#32)) ha105 hG) rfl rfl ON33 (.g rfl hG)) ?_
                  refine W.g rfl rfl rfl rfl rfl (.t rfl _) rfl (by decide) (fun hG => Yd.call (v := .bool ((((syllogistref_In y88.b (((geti (((geti m_1 j_69).getD [])) k_54).getD (0#32)))).getD false)))) rfl Try.func19 rfl rfl (.cons (.g rfl hG) (.cons (.g rfl hG) .nil)) (fun x' hx w hw => syllogistref_In_ok w0 x'.m x'.l y88.b (((geti (((geti m_1 j_69).getD [])) k_54).getD (0#32))) _ (gd_get (d := false) ha106 hG) w hw)) ?_
                  refine W.q rfl rfl rfl rfl (by decide) (Yd.and rfl (.t rfl) .c rfl rfl) ?_
                  refine W.end ?_
                  refine NX.sub (env' := [(0, _), (1, _), (2, _), (7, _), (8, _), (9, _), (10, _), (11, _), (35, _), (36, _), (37, _), (13, _), (62, _)]) ⟨rfl, rfl, rfl, rfl, rfl, rfl, rfl, rfl, rfl, rfl, rfl, rfl, rfl, trivial⟩ ?_
                  refine NX.then ?_
                  refine Tr.cond (.t rfl) (fun hb => ?_) (fun hb => ?_)
                  · have hr := cond_t hb hr
                    obtain ⟨y107, hy108, hr⟩ := bind_some hr
                    refine Tr.region_x (fun i => Nat.beq i 10) (fun i => Nat.beq i 10) (Ord.of [0, 1, 2, 3, 4, 5, 6, 7, 8, 9, 10]) FM (by kernel_rfl) ?_
                    refine W.q rfl rfl rfl rfl (by decide) (Yd.mv rfl (.t rfl)) ?_
                    refine W.q rfl rfl rfl rfl (by decide) (Yd.mv rfl (.t rfl)) ?_
                    refine W.q rfl rfl rfl rfl (by decide) (Yd.mv rfl (.t rfl)) ?_
                    refine W.q rfl rfl rfl rfl (by decide) (Yd.mv rfl (.t rfl)) ?_
                    refine W.q rfl rfl rfl rfl (by decide) (Yd.idxT (pos := 1) rfl hy108 rfl Try.underlying38 SZ33 (.t rfl) (.t rfl)) ?_
                    refine W.q rfl rfl rfl rfl (by decide) (Yd.ldT (enc := encU) (n := 1) (pos := 1) (fun _ => rfl) rfl hy108 rfl rfl ON33 (.t rfl)) ?_
                    refine W.q rfl rfl rfl rfl (by decide) (Yd.fldB rfl Try.underlying94 rfl SZ33 rfl (.t rfl)) ?_
                    refine W.q rfl rfl rfl rfl (by decide) (Yd.ldB (pos := 0) rfl rfl rfl ON33 (.t rfl)) ?_
                    refine W.q rfl rfl rfl rfl (by decide) (Yd.orU (a := y107) (b := y88.c) rfl (.t rfl) (.t rfl)) ?_
                    refine W.q rfl rfl rfl rfl (by decide) (Yd.idxT (pos := 1) rfl hy108 rfl Try.underlying38 SZ33 (.t rfl) (.t rfl)) ?_
                    refine W.s rfl rfl rfl rfl (Ef.stT (enc := encU) (n := 1) (pos := 1) (y := (y107 ||| y88.c)) (us := [_]) (fun _ => rfl) rfl hy108 rfl (.t rfl) (.t rfl) SZ33 rfl rfl rfl (by decide)) ?_
                    rintro _ _ ⟨rfl, rfl⟩
                    refine ⟨.inl rfl, ?_⟩
                    refine W.cast (m' := m13) (l' := hcells b90 [_, _, _] 94 :: hownT 33 1 encU v78 _ :: hown 38 1 v10 _ _ :: l) rfl rfl ?_
                    refine W.end ?_
                    refine NX.sub (env' := [(0, _), (1, _), (2, _), (7, _), (8, _), (9, _), (10, _), (11, _), (35, _), (36, _), (37, _)]) ⟨rfl, rfl, rfl, rfl, rfl, rfl, rfl, rfl, rfl, rfl, rfl, trivial⟩ ?_
                    refine NX.drop (l' := hownT 33 1 encU v78 _ :: hown 38 1 v10 _ _ :: l) (.cons _ (.cons_cons _ (.cons_cons _ (.refl _)))) ?_
                    refine NX.block ?_
                    refine NX.then ?_
                    refine Tr.region_f (fun _ => false) ?_
                    refine W.q rfl rfl rfl rfl (by decide) (Yd.add rfl (.t rfl) .c) ?_
                    refine W.q rfl rfl rfl rfl (by decide) (Yd.mv rfl (.t rfl)) ?_
                    refine W.end ?_
                    refine NX.sub (env' := [(0, _), (1, _), (2, _), (7, _), (8, _), (9, _), (10, _), (11, _), (35, _), (36, _), (37, _)]) ⟨rfl, rfl, rfl, rfl, rfl, rfl, rfl, rfl, rfl, rfl, rfl, trivial⟩ ?_
                    refine NX.sub (env' := [(0, _), (1, _), (2, _), (7, _), (8, _), (9, _), (10, _), (11, _), (35, _), (36, _), (37, _)]) ⟨rfl, rfl, rfl, rfl, rfl, rfl, rfl, rfl, rfl, rfl, rfl, trivial⟩ ?_
                    have hw := w64_id (n := t_84 + 1) (by omega) (by omega)
                    exact NX.again n87 (t_84 + 1, (l77.set k_54.toNat ((y107 ||| y88.c)))) (Nat.lt_succ_self _) ⟨_, (by rw [hw] <;> rfl), rfl, (fr_dec hnt_84), (by omega), ((hnx86 _).symm.trans hr)⟩
                  · have hr := cond_f hb hr
                    refine Tr.skip' ?_
                    refine NX.block ?_
                    refine NX.then ?_
                    refine Tr.region_f (fun _ => false) ?_
                    refine W.q rfl rfl rfl rfl (by decide) (Yd.add rfl (.t rfl) .c) ?_
                    refine W.q rfl rfl rfl rfl (by decide) (Yd.mv rfl (.t rfl)) ?_
                    refine W.end ?_
                    refine NX.sub (env' := [(0, _), (1, _), (2, _), (7, _), (8, _), (9, _), (10, _), (11, _), (35, _), (36, _), (37, _)]) ⟨rfl, rfl, rfl, rfl, rfl, rfl, rfl, rfl, rfl, rfl, rfl, trivial⟩ ?_
                    refine NX.drop (l' := hownT 33 1 encU v78 _ :: hown 38 1 v10 _ _ :: l) (.cons _ (.cons_cons _ (.cons_cons _ (.refl _)))) ?_
                    refine NX.sub (env' := [(0, _), (1, _), (2, _), (7, _), (8, _), (9, _), (10, _), (11, _), (35, _), (36, _), (37, _)]) ⟨rfl, rfl, rfl, rfl, rfl, rfl, rfl, rfl, rfl, rfl, rfl, trivial⟩ ?_
                    have hw := w64_id (n := t_84 + 1) (by omega) (by omega)
                    exact NX.again n87 (t_84 + 1, l77) (Nat.lt_succ_self _) ⟨_, (by rw [hw] <;> rfl), rfl, (fr_dec hnt_84), (by omega), ((hnx86 _).symm.trans hr)⟩

def syllogistref_Words_k3 : Option (Bool) :=
  some true

def syllogistref_Words_b7 (a_0 : List (BitVec 32)) (b_1 : List (BitVec 32)) (i_6 : Int) (nx8 : Unit → Option (Bool)) : Option (Bool) :=
  (geti a_0 i_6).bind fun y10 =>
  (geti b_1 i_6).bind fun y12 =>
  (bif (y10 != y12) then
  some false
  else
  nx8 ())

def syllogistref_Words (a_0 : List (BitVec 32)) (b_1 : List (BitVec 32)) : Option (Bool) :=
  (bif ((a_0.length : Int) != (b_1.length : Int)) then
  some false
  else
  forK (σ := Unit) (fun i s nx_ => syllogistref_Words_b7 a_0 b_1 i nx_) (fun _ => syllogistref_Words_k3) ((a_0.length : Int) - (0 : Int)).toNat (0 : Int) ())

set_option maxRecDepth 100000 in
theorem syllogistref_Words_ok (w0 : World) (m : Snap) (l : List HI) (ua_0 : Value) (a_0 : List (BitVec 32)) (ha_0 : RS rU m ua_0 a_0) (ub_1 : Value) (b_1 : List (BitVec 32)) (hb_1 : RS rU m ub_1 b_1) (r : Bool) (hr : syllogistref_Words a_0 b_1 = some r) (w : World) (hc : cX w0 ⟨m, l⟩ w) :
    Calls Try.prog 45 [ua_0, ub_1].toArray w fun e w' => e = .returned (.bool r) ∧ cX w0 ⟨m, l⟩ w' := by
  unfold syllogistref_Words at hr
  refine calls_of_Tr (N := 26) Try.func45 rfl hc rfl (Nat.le_of_ble_eq_true rfl) ?_
  refine Tr.seq ?_
  refine Tr.region_f (fun _ => false) ?_
  refine W.q rfl rfl rfl rfl (by decide) (Yd.as rfl .c) ?_
  refine W.end ?_
  refine NX.sub (env' := [(0, _), (1, _)]) ⟨rfl, rfl, trivial⟩ ?_
  refine NX.then ?_
  refine Tr.seq ?_
  refine Tr.seq ?_
  refine Tr.region_f (fun _ => false) ?_
  refine W.q rfl rfl rfl rfl (by decide) (Yd.mv rfl (.t rfl)) ?_
  refine W.q rfl rfl rfl rfl (by decide) (Yd.lenR ha_0 rfl Try.underlying38 (.t rfl)) ?_
  refine W.q rfl rfl rfl rfl (by decide) (Yd.mv rfl (.t rfl)) ?_
  refine W.q rfl rfl rfl rfl (by decide) (Yd.lenR hb_1 rfl Try.underlying38 (.t rfl)) ?_
  refine W.q rfl rfl rfl rfl (by decide) (Yd.neq rfl (.t rfl) (.t rfl)) ?_
  refine W.end ?_
  refine NX.sub (env' := [(0, _), (1, _), (10, _)]) ⟨rfl, rfl, rfl, trivial⟩ ?_
  refine NX.then ?_
  refine Tr.cond (.t rfl) (fun hb => ?_) (fun hb => ?_)
  · have hr := cond_t hb hr
    refine Tr.seq ?_
    refine Tr.region_f (fun _ => false) ?_
    refine W.q rfl rfl rfl rfl (by decide) (Yd.as rfl .c) ?_
    refine W.end ?_
    refine NX.sub (env' := [(4, _)]) ⟨rfl, trivial⟩ ?_
    refine NX.then ?_
    refine Tr.ret' (RT.then ?_)
    refine res1 rfl rfl ?_
    intro w hc
    cases hr
    exact ⟨rfl, hc⟩
  · have hr := cond_f hb hr
    refine Tr.skip' ?_
    refine NX.then ?_
    refine Tr.seq ?_
    refine Tr.seq ?_
    refine Tr.region_f (fun _ => false) ?_
    refine W.q rfl rfl rfl rfl (by decide) (Yd.as rfl .c) ?_
    refine W.end ?_
    refine NX.sub (env' := [(0, _), (1, _), (5, _)]) ⟨rfl, rfl, rfl, trivial⟩ ?_
    refine NX.then ?_
    refine Tr.join (S := fun env x => env = [] ∧ x = ⟨m, l⟩ ∧ syllogistref_Words_k3 = some r) ?_ (fun hk4 => ?_)
    · rintro _ _ ⟨rfl, rfl, hr⟩
      unfold syllogistref_Words_k3 at hr
      try dsimp only at hr
      refine NX.then ?_
      refine Tr.seq ?_
      refine Tr.region_f (fun _ => false) ?_
      refine W.q rfl rfl rfl rfl (by decide) (Yd.as rfl .c) ?_
      refine W.end ?_
      refine NX.sub (env' := [(4, _)]) ⟨rfl, trivial⟩ ?_
      refine NX.then ?_
      refine Tr.ret' ?_
      refine res1 rfl rfl ?_
      intro w hc
      cases hr
      exact ⟨rfl, hc⟩
    have hlen5 := (ha_0).2.1
    refine Tr.block ?_
    refine Tr.sub (env' := [(0, _), (1, _), (5, _)]) ⟨rfl, rfl, rfl, trivial⟩ ?_
    refine Tr.loop (S := fun n (z : Int × Unit) env x => match z with | (i_6, _) => env = [(0, ua_0), (1, ub_1), (5, .int .i64 i_6)] ∧ x = ⟨m, l⟩ ∧ n = ((a_0.length : Int) - i_6).toNat ∧ 0 ≤ i_6 ∧ forK (σ := Unit) (fun i s nx_ => syllogistref_Words_b7 a_0 b_1 i nx_) (fun _ => syllogistref_Words_k3) n i_6 () = some r) _ ((0 : Int), ()) ⟨rfl, rfl, rfl, (by omega), hr⟩ ?_
    rintro n9 ⟨i_6, _⟩ env x ⟨rfl, rfl, hni_6, h0i_6, hr⟩
    cases n9 with
    | zero =>
      simp only [forK] at hr
      refine Tr.seq ?_
      refine Tr.seq ?_
      refine Tr.region_f (fun _ => false) ?_
      refine W.q rfl rfl rfl rfl (by decide) (Yd.mv rfl (.t rfl)) ?_
      refine W.q rfl rfl rfl rfl (by decide) (Yd.mv rfl (.t rfl)) ?_
      refine W.q rfl rfl rfl rfl (by decide) (Yd.lenR ha_0 rfl Try.underlying38 (.t rfl)) ?_
      refine W.q rfl rfl rfl rfl (by decide) (Yd.lss rfl (.t rfl) (.t rfl)) ?_
      refine W.end ?_
      refine NX.sub (env' := [(0, _), (1, _), (5, _), (14, _)]) ⟨rfl, rfl, rfl, rfl, trivial⟩ ?_
      refine NX.then ?_
      refine Tr.cond (.t rfl) (fun hb => ?_) (fun hb => ?_)
      · exact absurd (hb.symm.trans (fr_end hni_6)) (by decide)
      ·
        refine Tr.exit' (EX.then (EX.then (EX.block ?_)))
        refine NX.sub (env' := []) trivial ?_
        exact hk4 _ _ ⟨rfl, rfl, hr⟩
    | succ n9 =>
      obtain ⟨nx8, hnx8, hr⟩ := forK_succ hr
      try dsimp only at hr
      unfold syllogistref_Words_b7 at hr
      try dsimp only at hr
      have hlti_6 := fr_bnd hni_6
      refine Tr.seq ?_
      refine Tr.seq ?_
      refine Tr.region_f (fun _ => false) ?_
      refine W.q rfl rfl rfl rfl (by decide) (Yd.mv rfl (.t rfl)) ?_
      refine W.q rfl rfl rfl rfl (by decide) (Yd.mv rfl (.t rfl)) ?_
      refine W.q rfl rfl rfl rfl (by decide) (Yd.lenR ha_0 rfl Try.underlying38 (.t rfl)) ?_
      refine W.q rfl rfl rfl rfl (by decide) (Yd.lss rfl (.t rfl) (.t rfl)) ?_
      refine W.end ?_
      refine NX.sub (env' := [(0, _), (1, _), (5, _), (14, _)]) ⟨rfl, rfl, rfl, rfl, trivial⟩ ?_
      refine NX.then ?_
      refine Tr.cond (.t rfl) (fun hb => ?_) (fun hb => ?_)
      rotate_left
      · exact absurd (hb.symm.trans (fr_go hni_6)) (by decide)
      ·
        refine Tr.skip' ?_
        refine NX.then ?_
        refine Tr.seq ?_
        refine Tr.block ?_
        refine Tr.seq ?_
        obtain ⟨y10, hy11, hr⟩ := bind_some hr
        obtain ⟨y12, hy13, hr⟩ := bind_some hr
        refine Tr.region_x (fun _ => false) (fun _ => false) (Ord.of [0, 1, 2, 3, 4, 5, 6, 7, 8]) FM (by kernel_rfl) ?_
        refine W.q rfl rfl rfl rfl (by decide) (Yd.mv rfl (.t rfl)) ?_
        refine W.q rfl rfl rfl rfl (by decide) (Yd.mv rfl (.t rfl)) ?_
        refine W.q rfl rfl rfl rfl (by decide) (Yd.idxR ha_0 hy11 rfl Try.underlying38 SZ33 (.t rfl) (.t rfl)) ?_
        refine W.q rfl rfl rfl rfl (by decide) (Yd.ldF ha_0 (.refl _) hy11 rfl rfl ON33 (.t rfl)) ?_
        refine W.q rfl rfl rfl rfl (by decide) (Yd.mv rfl (.t rfl)) ?_
        refine W.q rfl rfl rfl rfl (by decide) (Yd.mv rfl (.t rfl)) ?_
        refine W.q rfl rfl rfl rfl (by decide) (Yd.idxR hb_1 hy13 rfl Try.underlying38 SZ33 (.t rfl) (.t rfl)) ?_
        refine W.q rfl rfl rfl rfl (by decide) (Yd.ldF hb_1 (.refl _) hy13 rfl rfl ON33 (.t rfl)) ?_
        refine W.q rfl rfl rfl rfl (by decide) (Yd.neqU (a := y10) (b := y12) rfl (.t rfl) (.t rfl)) ?_
        refine W.end ?_
        refine NX.sub (env' := [(0, _), (1, _), (5, _), (25, _)]) ⟨rfl, rfl, rfl, rfl, trivial⟩ ?_
        refine NX.then ?_
        refine Tr.cond (.t rfl) (fun hb => ?_) (fun hb => ?_)
        · have hr := cond_t hb hr
          refine Tr.seq ?_
          refine Tr.region_f (fun _ => false) ?_
          refine W.q rfl rfl rfl rfl (by decide) (Yd.as rfl .c) ?_
          refine W.end ?_
          refine NX.sub (env' := [(4, _)]) ⟨rfl, trivial⟩ ?_
          refine NX.then ?_
          refine Tr.ret' (RT.block (RT.then (RT.then (RT.block (RT.then ?_)))))
          refine res1 rfl rfl ?_
          intro w hc
          cases hr
          exact ⟨rfl, hc⟩
        · have hr := cond_f hb hr
          refine Tr.skip' ?_
          refine NX.block ?_
          refine NX.then ?_
          refine Tr.region_f (fun _ => false) ?_
          refine W.q rfl rfl rfl rfl (by decide) (Yd.mv rfl (.t rfl)) ?_
          refine W.q rfl rfl rfl rfl (by decide) (Yd.add rfl (.t rfl) .c) ?_
          refine W.q rfl rfl rfl rfl (by decide) (Yd.as rfl (.t rfl)) ?_
          refine W.end ?_
          refine NX.sub (env' := [(0, _), (1, _), (5, _)]) ⟨rfl, rfl, rfl, trivial⟩ ?_
          refine NX.sub (env' := [(0, _), (1, _), (5, _)]) ⟨rfl, rfl, rfl, trivial⟩ ?_
          have hw := w64_id (n := i_6 + 1) (by omega) (by omega)
          exact NX.again n9 (i_6 + 1, ()) (Nat.lt_succ_self _) ⟨(by rw [hw] <;> rfl), rfl, (fr_dec hni_6), (by omega), ((hnx8 _).symm.trans hr)⟩

def syllogistref_Matrices_k3 : Option (Bool) :=
  some true

def syllogistref_Matrices_b7 (a_0 : List (List (BitVec 32))) (b_1 : List (List (BitVec 32))) (i_6 : Int) (nx8 : Unit → Option (Bool)) : Option (Bool) :=
  (geti a_0 i_6).bind fun y10 =>
  (geti b_1 i_6).bind fun y15 =>
  (syllogistref_Words y10 y15).bind fun r20 =>
  (bif (!r20) then
  some false
  else
  nx8 ())

def syllogistref_Matrices (a_0 : List (List (BitVec 32))) (b_1 : List (List (BitVec 32))) : Option (Bool) :=
  (bif ((a_0.length : Int) != (b_1.length : Int)) then
  some false
  else
  forK (σ := Unit) (fun i s nx_ => syllogistref_Matrices_b7 a_0 b_1 i nx_) (fun _ => syllogistref_Matrices_k3) ((a_0.length : Int) - (0 : Int)).toNat (0 : Int) ())

set_option maxRecDepth 100000 in
theorem syllogistref_Matrices_ok (w0 : World) (m : Snap) (l : List HI) (ua_0 : Value) (a_0 : List (List (BitVec 32))) (ha_0 : RS (Rp.slice rU) m ua_0 a_0) (ub_1 : Value) (b_1 : List (List (BitVec 32))) (hb_1 : RS (Rp.slice rU) m ub_1 b_1) (r : Bool) (hr : syllogistref_Matrices a_0 b_1 = some r) (w : World) (hc : cX w0 ⟨m, l⟩ w) :
    Calls Try.prog 16 [ua_0, ub_1].toArray w fun e w' => e = .returned (.bool r) ∧ cX w0 ⟨m, l⟩ w' := by
  unfold syllogistref_Matrices at hr
  refine calls_of_Tr (N := 27) Try.func16 rfl hc rfl (Nat.le_of_ble_eq_true rfl) ?_
  refine Tr.seq ?_
  refine Tr.region_f (fun _ => false) ?_
  refine W.q rfl rfl rfl rfl (by decide) (Yd.as rfl .c) ?_
  refine W.end ?_
  refine NX.sub (env' := [(0, _), (1, _)]) ⟨rfl, rfl, trivial⟩ ?_
  refine NX.then ?_
  refine Tr.seq ?_
  refine Tr.seq ?_
  refine Tr.region_f (fun _ => false) ?_
  refine W.q rfl rfl rfl rfl (by decide) (Yd.mv rfl (.t rfl)) ?_
  refine W.q rfl rfl rfl rfl (by decide) (Yd.lenR ha_0 rfl Try.underlying23 (.t rfl)) ?_
  refine W.q rfl rfl rfl rfl (by decide) (Yd.mv rfl (.t rfl)) ?_
  refine W.q rfl rfl rfl rfl (by decide) (Yd.lenR hb_1 rfl Try.underlying23 (.t rfl)) ?_
  refine W.q rfl rfl rfl rfl (by decide) (Yd.neq rfl (.t rfl) (.t rfl)) ?_
  refine W.end ?_
  refine NX.sub (env' := [(0, _), (1, _), (10, _)]) ⟨rfl, rfl, rfl, trivial⟩ ?_
  refine NX.then ?_
  refine Tr.cond (.t rfl) (fun hb => ?_) (fun hb => ?_)
  · have hr := cond_t hb hr
    refine Tr.seq ?_
    refine Tr.region_f (fun _ => false) ?_
    refine W.q rfl rfl rfl rfl (by decide) (Yd.as rfl .c) ?_
    refine W.end ?_
    refine NX.sub (env' := [(4, _)]) ⟨rfl, trivial⟩ ?_
    refine NX.then ?_
    refine Tr.ret' (RT.then ?_)
    refine res1 rfl rfl ?_
    intro w hc
    cases hr
    exact ⟨rfl, hc⟩
  · have hr := cond_f hb hr
    refine Tr.skip' ?_
    refine NX.then ?_
    refine Tr.seq ?_
    refine Tr.seq ?_
    refine Tr.region_f (fun _ => false) ?_
    refine W.q rfl rfl rfl rfl (by decide) (Yd.as rfl .c) ?_
    refine W.end ?_
    refine NX.sub (env' := [(0, _), (1, _), (5, _)]) ⟨rfl, rfl, rfl, trivial⟩ ?_
    refine NX.then ?_
    refine Tr.join (S := fun env x => env = [] ∧ x = ⟨m, l⟩ ∧ syllogistref_Matrices_k3 = some r) ?_ (fun hk4 => ?_)
    · rintro _ _ ⟨rfl, rfl, hr⟩
      unfold syllogistref_Matrices_k3 at hr
      try dsimp only at hr
      refine NX.then ?_
      refine Tr.seq ?_
      refine Tr.region_f (fun _ => false) ?_
      refine W.q rfl rfl rfl rfl (by decide) (Yd.as rfl .c) ?_
      refine W.end ?_
      refine NX.sub (env' := [(4, _)]) ⟨rfl, trivial⟩ ?_
      refine NX.then ?_
      refine Tr.ret' ?_
      refine res1 rfl rfl ?_
      intro w hc
      cases hr
      exact ⟨rfl, hc⟩
    have hlen5 := (ha_0).2.1
    refine Tr.block ?_
    refine Tr.sub (env' := [(0, _), (1, _), (5, _)]) ⟨rfl, rfl, rfl, trivial⟩ ?_
    refine Tr.loop (S := fun n (z : Int × Unit) env x => match z with | (i_6, _) => env = [(0, ua_0), (1, ub_1), (5, .int .i64 i_6)] ∧ x = ⟨m, l⟩ ∧ n = ((a_0.length : Int) - i_6).toNat ∧ 0 ≤ i_6 ∧ forK (σ := Unit) (fun i s nx_ => syllogistref_Matrices_b7 a_0 b_1 i nx_) (fun _ => syllogistref_Matrices_k3) n i_6 () = some r) _ ((0 : Int), ()) ⟨rfl, rfl, rfl, (by omega), hr⟩ ?_
    rintro n9 ⟨i_6, _⟩ env x ⟨rfl, rfl, hni_6, h0i_6, hr⟩
    cases n9 with
    | zero =>
      simp only [forK] at hr
      refine Tr.seq ?_
      refine Tr.seq ?_
      refine Tr.region_f (fun _ => false) ?_
      refine W.q rfl rfl rfl rfl (by decide) (Yd.mv rfl (.t rfl)) ?_
      refine W.q rfl rfl rfl rfl (by decide) (Yd.mv rfl (.t rfl)) ?_
      refine W.q rfl rfl rfl rfl (by decide) (Yd.lenR ha_0 rfl Try.underlying23 (.t rfl)) ?_
      refine W.q rfl rfl rfl rfl (by decide) (Yd.lss rfl (.t rfl) (.t rfl)) ?_
      refine W.end ?_
      refine NX.sub (env' := [(0, _), (1, _), (5, _), (14, _)]) ⟨rfl, rfl, rfl, rfl, trivial⟩ ?_
      refine NX.then ?_
      refine Tr.cond (.t rfl) (fun hb => ?_) (fun hb => ?_)
      · exact absurd (hb.symm.trans (fr_end hni_6)) (by decide)
      ·
        refine Tr.exit' (EX.then (EX.then (EX.block ?_)))
        refine NX.sub (env' := []) trivial ?_
        exact hk4 _ _ ⟨rfl, rfl, hr⟩
    | succ n9 =>
      obtain ⟨nx8, hnx8, hr⟩ := forK_succ hr
      try dsimp only at hr
      unfold syllogistref_Matrices_b7 at hr
      try dsimp only at hr
      have hlti_6 := fr_bnd hni_6
      refine Tr.seq ?_
      refine Tr.seq ?_
      refine Tr.region_f (fun _ => false) ?_
      refine W.q rfl rfl rfl rfl (by decide) (Yd.mv rfl (.t rfl)) ?_
      refine W.q rfl rfl rfl rfl (by decide) (Yd.mv rfl (.t rfl)) ?_
      refine W.q rfl rfl rfl rfl (by decide) (Yd.lenR ha_0 rfl Try.underlying23 (.t rfl)) ?_
      refine W.q rfl rfl rfl rfl (by decide) (Yd.lss rfl (.t rfl) (.t rfl)) ?_
      refine W.end ?_
      refine NX.sub (env' := [(0, _), (1, _), (5, _), (14, _)]) ⟨rfl, rfl, rfl, rfl, trivial⟩ ?_
      refine NX.then ?_
      refine Tr.cond (.t rfl) (fun hb => ?_) (fun hb => ?_)
      rotate_left
      · exact absurd (hb.symm.trans (fr_go hni_6)) (by decide)
      ·
        refine Tr.skip' ?_
        refine NX.then ?_
        refine Tr.seq ?_
        refine Tr.block ?_
        refine Tr.seq ?_
        obtain ⟨y10, hy11, hr⟩ := bind_some hr
        obtain ⟨y15, hy16, hr⟩ := bind_some hr
        obtain ⟨r20, hr21, hr⟩ := bind_some hr
        refine Tr.region_x (fun _ => false) (fun _ => false) (Ord.of [0, 1, 2, 3, 4, 5, 6, 7, 8, 9]) FM (by kernel_rfl) ?_
        refine W.q rfl rfl rfl rfl (by decide) (Yd.mv rfl (.t rfl)) ?_
        refine W.q rfl rfl rfl rfl (by decide) (Yd.mv rfl (.t rfl)) ?_
        refine W.q rfl rfl rfl rfl (by decide) (Yd.idxR ha_0 hy11 rfl Try.underlying23 SZ38 (.t rfl) (.t rfl)) ?_
        obtain ⟨u12, hu13, hat14⟩ := ha_0.row hy11
        refine W.q rfl rfl rfl rfl (by decide) (Yd.ldRow hat14 (.refl _) rfl ON38 (.t rfl)) ?_
        refine W.q rfl rfl rfl rfl (by decide) (Yd.mv rfl (.t rfl)) ?_
        refine W.q rfl rfl rfl rfl (by decide) (Yd.mv rfl (.t rfl)) ?_
        refine W.q rfl rfl rfl rfl (by decide) (Yd.idxR hb_1 hy16 rfl Try.underlying23 SZ38 (.t rfl) (.t rfl)) ?_
        obtain ⟨u17, hu18, hat19⟩ := hb_1.row hy16
        refine W.q rfl rfl rfl rfl (by decide) (Yd.ldRow hat19 (.refl _) rfl ON38 (.t rfl)) ?_
        refine W.q rfl rfl rfl rfl (by decide) (Yd.call (v := .bool r20) rfl Try.func45 rfl rfl (.cons (.t rfl) (.cons (.t rfl) .nil)) (fun x' hx w hw => syllogistref_Words_ok w0 x'.m x'.l _ _ (hu13.mono hx.1) _ _ (hu18.mono hx.1) _ hr21 w hw)) ?_
        refine W.q rfl rfl rfl rfl (by decide) (Yd.not rfl (.t rfl)) ?_
        refine W.end ?_
        refine NX.sub (env' := [(0, _), (1, _), (5, _), (26, _)]) ⟨rfl, rfl, rfl, rfl, trivial⟩ ?_
        refine NX.then ?_
        refine Tr.cond (.t rfl) (fun hb => ?_) (fun hb => ?_)
        · have hr := cond_t hb hr
          refine Tr.seq ?_
          refine Tr.region_f (fun _ => false) ?_
          refine W.q rfl rfl rfl rfl (by decide) (Yd.as rfl .c) ?_
          refine W.end ?_
          refine NX.sub (env' := [(4, _)]) ⟨rfl, trivial⟩ ?_
          refine NX.then ?_
          refine Tr.ret' (RT.block (RT.then (RT.then (RT.block (RT.then ?_)))))
          refine res1 rfl rfl ?_
          intro w hc
          cases hr
          exact ⟨rfl, hc⟩
        · have hr := cond_f hb hr
          refine Tr.skip' ?_
          refine NX.block ?_
          refine NX.then ?_
          refine Tr.region_f (fun _ => false) ?_
          refine W.q rfl rfl rfl rfl (by decide) (Yd.mv rfl (.t rfl)) ?_
          refine W.q rfl rfl rfl rfl (by decide) (Yd.add rfl (.t rfl) .c) ?_
          refine W.q rfl rfl rfl rfl (by decide) (Yd.as rfl (.t rfl)) ?_
          refine W.end ?_
          refine NX.sub (env' := [(0, _), (1, _), (5, _)]) ⟨rfl, rfl, rfl, trivial⟩ ?_
          refine NX.sub (env' := [(0, _), (1, _), (5, _)]) ⟨rfl, rfl, rfl, trivial⟩ ?_
          have hw := w64_id (n := i_6 + 1) (by omega) (by omega)
          exact NX.again n9 (i_6 + 1, ()) (Nat.lt_succ_self _) ⟨(by rw [hw] <;> rfl), rfl, (fr_dec hni_6), (by omega), ((hnx8 _).symm.trans hr)⟩

def syllogistref_Rounds_b11 (n_0 : Int) (chains_2 : List Chain) (m_6 : List (List (BitVec 32))) (k_9 : Int) (nx12 : ((List (List (BitVec 32))) × Int) → Option (Int × (List (List (BitVec 32))))) : Option (Int × (List (List (BitVec 32)))) :=
  (syllogistref_Round n_0 m_6 chains_2).bind fun r14 =>
  (syllogistref_Matrices r14 m_6).bind fun r19 =>
  (bif r19 then
  some ((k_9, m_6))
  else
  nx12 (r14, (w64 (k_9 + (1 : Int)))))

def syllogistref_Rounds (fuel : Nat) (n_0 : Int) (m_1 : List (List (BitVec 32))) (chains_2 : List Chain) : Option (Int × (List (List (BitVec 32)))) :=
  whileK (σ := (List (List (BitVec 32))) × Int) (fun s nx_ => syllogistref_Rounds_b11 n_0 chains_2 s.1 s.2 nx_) fuel (m_1, ((0 : Int)))

set_option maxRecDepth 100000 in
theorem syllogistref_Rounds_ok (w0 : World) (m : Snap) (l : List HI) (fuel : Nat) (n_0 : Int) (um_1 : Value) (m_1 : List (List (BitVec 32))) (hm_1 : RS (Rp.slice rU) m um_1 m_1) (uchains_2 : Value) (chains_2 : List Chain) (hchains_2 : RS rChain m uchains_2 chains_2) (r : Int × (List (List (BitVec 32)))) (hr : syllogistref_Rounds fuel n_0 m_1 chains_2 = some r) (w : World) (hc : cX w0 ⟨m, l⟩ w) :
    Calls Try.prog 15 [.int .i64 n_0, um_1, uchains_2].toArray w fun e w' => ∃ z0 : Value, ∃ m1 : Snap, e = .returned (.tuple #[.int .i64 r.1, z0]) ∧ Sle m m1 ∧ RS (Rp.slice rU) m1 z0 r.2 ∧ cX w0 ⟨m1, l⟩ w' := by
  unfold syllogistref_Rounds at hr
  refine calls_of_Tr (N := 22) Try.func15 rfl hc rfl (Nat.le_of_ble_eq_true rfl) ?_
  refine Tr.seq ?_
  refine Tr.region_f (fun _ => false) ?_
  refine W.q rfl rfl rfl rfl (by decide) (Yd.as rfl .c) ?_
  refine W.q rfl rfl rfl rfl (by decide) (Yd.as rfl .c) ?_
  refine W.end ?_
  refine NX.sub (env' := [(0, _), (1, _), (2, _)]) ⟨rfl, rfl, rfl, trivial⟩ ?_
  refine NX.then ?_
  refine Tr.seq ?_
  refine Tr.region_f (fun _ => false) ?_
  refine W.q rfl rfl rfl rfl (by decide) (Yd.as rfl .c) ?_
  refine W.end ?_
  refine NX.sub (env' := [(0, _), (1, _), (2, _), (8, _)]) ⟨rfl, rfl, rfl, rfl, trivial⟩ ?_
  refine NX.then ?_
  refine Tr.block ?_
  refine Tr.sub (env' := [(0, _), (1, _), (2, _), (8, _)]) ⟨rfl, rfl, rfl, rfl, trivial⟩ ?_
  refine Tr.loop (S := fun n (z : (List (List (BitVec 32))) × Int) env x => match z with | (m_6, k_9) => ∃ m10 : Snap, ∃ u7 : Value, Sle m m10 ∧ RS (Rp.slice rU) m10 u7 m_6 ∧ env = [(0, .int .i64 n_0), (1, u7), (2, uchains_2), (8, .int .i64 k_9)] ∧ x = ⟨m10, l⟩ ∧ whileK (σ := (List (List (BitVec 32))) × Int) (fun s nx_ => syllogistref_Rounds_b11 n_0 chains_2 s.1 s.2 nx_) n (m_6, k_9) = some r) _ (m_1, (0 : Int)) ⟨_, _, (.refl _), hm_1, rfl, rfl, hr⟩ ?_
  rintro n13 ⟨m_6, k_9⟩ env x ⟨m10, u7, hsm10, hu8, rfl, rfl, hr⟩
  have hm_1 := hm_1.mono hsm10
  have hchains_2 := hchains_2.mono hsm10
  cases n13 with
  | zero => simp [whileK] at hr
  | succ n13 =>
    obtain ⟨nx12, hnx12, hr⟩ := whileK_succ hr
    try dsimp only at hr
    unfold syllogistref_Rounds_b11 at hr
    try dsimp only at hr
    refine Tr.seq ?_
    refine Tr.block ?_
    refine Tr.seq ?_
    obtain ⟨r14, hr15, hr⟩ := bind_some hr
    refine Tr.region_f (fun i => Nat.beq i 3) ?_
    refine W.q rfl rfl rfl rfl (by decide) (Yd.mv rfl (.t rfl)) ?_
    refine W.q rfl rfl rfl rfl (by decide) (Yd.mv rfl (.t rfl)) ?_
    refine W.q rfl rfl rfl rfl (by decide) (Yd.mv rfl (.t rfl)) ?_
    refine W.e rfl rfl rfl rfl (by decide) (Ef.call (R := fun z x' => ∃ u16 : Value, ∃ m17 : Snap, z = u16 ∧ x' = ⟨m17, l⟩ ∧ Sle m10 m17 ∧ RS (Rp.slice rU) m17 u16 r14) rfl Try.func20 rfl rfl (.cons (.t rfl) (.cons (.t rfl) (.cons (.t rfl) .nil))) (fun w hw => (syllogistref_Round_ok w0 _ _ n_0 _ _ hu8 _ _ hchains_2 _ hr15 w hw).mono fun e w' ⟨u16, m17, he, hm', hu18, hc'⟩ => ⟨_, _, he, ⟨u16, m17, rfl, rfl, hm', hu18⟩, hc'⟩)) ?_
    rintro u16 _ ⟨_, m17, rfl, rfl, hsm17, hu18⟩
    have hm_1 := hm_1.mono hsm17
    have hchains_2 := hchains_2.mono hsm17
    have hu8 := hu8.mono hsm17
    refine ⟨.inl rfl, ?_⟩
    refine W.cast (m' := m17) (l' := l) rfl rfl ?_
    refine W.q rfl rfl rfl rfl (by decide) (Yd.as rfl (.t rfl)) ?_
    refine W.end ?_
    refine NX.sub (env' := [(0, _), (1, _), (2, _), (8, _), (9, _)]) ⟨rfl, rfl, rfl, rfl, rfl, trivial⟩ ?_
    refine NX.then ?_
    refine Tr.seq ?_
    refine Tr.seq ?_
    obtain ⟨r19, hr20, hr⟩ := bind_some hr
    refine Tr.region_f (fun _ => false) ?_
    refine W.q rfl rfl rfl rfl (by decide) (Yd.mv rfl (.t rfl)) ?_
    refine W.q rfl rfl rfl rfl (by decide) (Yd.mv rfl (.t rfl)) ?_
    refine W.q rfl rfl rfl rfl (by decide) (Yd.call (v := .bool r19) rfl Try.func16 rfl rfl (.cons (.t rfl) (.cons (.t rfl) .nil)) (fun x' hx w hw => syllogistref_Matrices_ok w0 x'.m x'.l _ _ (hu18.mono hx.1) _ _ (hu8.mono hx.1) _ hr20 w hw)) ?_
    refine W.end ?_
    refine NX.sub (env' := [(0, _), (1, _), (2, _), (8, _), (9, _), (18, _)]) ⟨rfl, rfl, rfl, rfl, rfl, rfl, trivial⟩ ?_
    refine NX.then ?_
    refine Tr.cond (.t rfl) (fun hb => ?_) (fun hb => ?_)
    · have hr := cond_t hb hr
      refine Tr.seq ?_
      refine Tr.region_f (fun _ => false) ?_
      refine W.q rfl rfl rfl rfl (by decide) (Yd.mv rfl (.t rfl)) ?_
      refine W.q rfl rfl rfl rfl (by decide) (Yd.mv rfl (.t rfl)) ?_
      refine W.q rfl rfl rfl rfl (by decide) (Yd.as rfl (.t rfl)) ?_
      refine W.q rfl rfl rfl rfl (by decide) (Yd.as rfl (.t rfl)) ?_
      refine W.end ?_
      refine NX.sub (env' := [(6, _), (7, _)]) ⟨rfl, rfl, trivial⟩ ?_
      refine NX.then ?_
      refine Tr.ret' (RT.then (RT.block (RT.then (RT.then (RT.block ?_)))))
      refine res2 rfl rfl rfl ?_
      intro w hc
      cases hr
      exact ⟨_, _, rfl, (hsm10.trans hsm17), hu8, hc⟩
    · have hr := cond_f hb hr
      refine Tr.skip' ?_
      refine NX.then ?_
      refine Tr.region_f (fun _ => false) ?_
      refine W.q rfl rfl rfl rfl (by decide) (Yd.mv rfl (.t rfl)) ?_
      refine W.q rfl rfl rfl rfl (by decide) (Yd.as rfl (.t rfl)) ?_
      refine W.end ?_
      refine NX.sub (env' := [(0, _), (1, _), (2, _), (8, _)]) ⟨rfl, rfl, rfl, rfl, trivial⟩ ?_
      refine NX.block ?_
      refine NX.then ?_
      refine Tr.region_f (fun _ => false) ?_
      refine W.q rfl rfl rfl rfl (by decide) (Yd.mv rfl (.t rfl)) ?_
      refine W.q rfl rfl rfl rfl (by decide) (Yd.add rfl (.t rfl) .c) ?_
      refine W.q rfl rfl rfl rfl (by decide) (Yd.as rfl (.t rfl)) ?_
      refine W.end ?_
      refine NX.sub (env' := [(0, _), (1, _), (2, _), (8, _)]) ⟨rfl, rfl, rfl, rfl, trivial⟩ ?_
      refine NX.sub (env' := [(0, _), (1, _), (2, _), (8, _)]) ⟨rfl, rfl, rfl, rfl, trivial⟩ ?_
      exact NX.again n13 (r14, (w64 (k_9 + (1 : Int)))) (Nat.lt_succ_self _) ⟨_, _, (hsm10.trans hsm17), hu18, rfl, rfl, ((hnx12 _).symm.trans hr)⟩

def syllogistlaw_RightsCloses (fuel : Nat) (n_0 : Int) (m_1 : List (List (BitVec 32))) (chains_2 : List Chain) : Option (Bool) :=
  (rights_Close fuel n_0 m_1 chains_2).bind fun r1 =>
  (syllogistref_MatrixCheck n_0 m_1 chains_2).bind fun r6 =>
  (bif (r6 != (0 : Int)) then
  some (((r1.2 == r6) && ((r1.1.length : Int) == (0 : Int))))
  else
  (syllogistref_Rounds fuel n_0 m_1 chains_2).bind fun r8 =>
  bif (!((r1.2 == (0 : Int)) == true) || (syllogistref_Matrices r1.1 r8.2).isSome) then
  some (((r1.2 == (0 : Int)) && (((syllogistref_Matrices r1.1 r8.2).getD false)))) else none)

set_option maxRecDepth 100000 in
theorem syllogistlaw_RightsCloses_ok (w0 : World) (m : Snap) (l : List HI) (fuel : Nat) (n_0 : Int) (um_1 : Value) (m_1 : List (List (BitVec 32))) (hm_1 : RS (Rp.slice rU) m um_1 m_1) (uchains_2 : Value) (chains_2 : List Chain) (hchains_2 : RS rChain m uchains_2 chains_2) (r : Bool) (hr : syllogistlaw_RightsCloses fuel n_0 m_1 chains_2 = some r) (w : World) (hc : cX w0 ⟨m, l⟩ w) :
    Calls Try.prog 3 [.int .i64 n_0, um_1, uchains_2].toArray w fun e w' => e = .returned (.bool r) ∧ cX w0 ⟨m, l⟩ w' := by
  unfold syllogistlaw_RightsCloses at hr
  refine calls_of_Tr (N := 47) Try.func3 rfl hc rfl (Nat.le_of_ble_eq_true rfl) ?_
  refine Tr.seq ?_
  refine Tr.region_f (fun _ => false) ?_
  refine W.q rfl rfl rfl rfl (by decide) (Yd.as rfl .c) ?_
  refine W.end ?_
  refine NX.sub (env' := [(0, _), (1, _), (2, _)]) ⟨rfl, rfl, rfl, trivial⟩ ?_
  refine NX.then ?_
  refine Tr.seq ?_
  obtain ⟨r1, hr2, hr⟩ := bind_some hr
  refine Tr.region_f (fun i => Nat.beq i 3) ?_
  refine W.q rfl rfl rfl rfl (by decide) (Yd.mv rfl (.t rfl)) ?_
  refine W.q rfl rfl rfl rfl (by decide) (Yd.mv rfl (.t rfl)) ?_
  refine W.q rfl rfl rfl rfl (by decide) (Yd.mv rfl (.t rfl)) ?_
  refine W.e rfl rfl rfl rfl (by decide) (Ef.call (R := fun z x' => ∃ u3 : Value, ∃ m4 : Snap, z = .tuple #[u3, .int .i64 r1.2] ∧ x' = ⟨m4, l⟩ ∧ Sle m m4 ∧ RS (Rp.slice rU) m4 u3 r1.1) rfl Try.func13 rfl rfl (.cons (.t rfl) (.cons (.t rfl) (.cons (.t rfl) .nil))) (fun w hw => (rights_Close_ok w0 _ _ fuel n_0 _ _ hm_1 _ _ hchains_2 _ hr2 w hw).mono fun e w' ⟨u3, m4, he, hm', hu5, hc'⟩ => ⟨_, _, he, ⟨u3, m4, rfl, rfl, hm', hu5⟩, hc'⟩)) ?_
  rintro _ _ ⟨u3, m4, rfl, rfl, hsm4, hu5⟩
  have hm_1 := hm_1.mono hsm4
  have hchains_2 := hchains_2.mono hsm4
  refine ⟨.inl rfl, ?_⟩
  refine W.cast (m' := m4) (l' := l) rfl rfl ?_
  refine W.q rfl rfl rfl rfl (by decide) (Yd.mv rfl (.t rfl)) ?_
  refine W.q rfl rfl rfl rfl (by decide) (Yd.ext rfl (.t rfl) rfl) ?_
  refine W.q rfl rfl rfl rfl (by decide) (Yd.ext rfl (.t rfl) rfl) ?_
  refine W.q rfl rfl rfl rfl (by decide) (Yd.as rfl (.t rfl)) ?_
  refine W.q rfl rfl rfl rfl (by decide) (Yd.as rfl (.t rfl)) ?_
  refine W.end ?_
  refine NX.sub (env' := [(0, _), (1, _), (2, _), (7, _), (8, _)]) ⟨rfl, rfl, rfl, rfl, rfl, trivial⟩ ?_
  refine NX.then ?_
  refine Tr.seq ?_
  obtain ⟨r6, hr7, hr⟩ := bind_some hr
  refine Tr.region_f (fun _ => false) ?_
  refine W.q rfl rfl rfl rfl (by decide) (Yd.mv rfl (.t rfl)) ?_
  refine W.q rfl rfl rfl rfl (by decide) (Yd.mv rfl (.t rfl)) ?_
  refine W.q rfl rfl rfl rfl (by decide) (Yd.mv rfl (.t rfl)) ?_
  refine W.q rfl rfl rfl rfl (by decide) (Yd.call (v := .int .i64 r6) rfl Try.func14 rfl rfl (.cons (.t rfl) (.cons (.t rfl) (.cons (.t rfl) .nil))) (fun x' hx w hw => syllogistref_MatrixCheck_ok w0 x'.m x'.l n_0 _ _ (hm_1.mono hx.1) _ _ (hchains_2.mono hx.1) _ hr7 w hw)) ?_
  refine W.q rfl rfl rfl rfl (by decide) (Yd.as rfl (.t rfl)) ?_
  refine W.end ?_
  refine NX.sub (env' := [(0, _), (1, _), (2, _), (7, _), (8, _), (9, _)]) ⟨rfl, rfl, rfl, rfl, rfl, rfl, trivial⟩ ?_
  refine NX.then ?_
  refine Tr.seq ?_
  refine Tr.seq ?_
  refine Tr.region_f (fun _ => false) ?_
  refine W.q rfl rfl rfl rfl (by decide) (Yd.mv rfl (.t rfl)) ?_
  refine W.q rfl rfl rfl rfl (by decide) (Yd.neq rfl (.t rfl) .c) ?_
  refine W.end ?_
  refine NX.sub (env' := [(0, _), (1, _), (2, _), (7, _), (8, _), (9, _), (24, _)]) ⟨rfl, rfl, rfl, rfl, rfl, rfl, rfl, trivial⟩ ?_
  refine NX.then ?_
  refine Tr.cond (.t rfl) (fun hb => ?_) (fun hb => ?_)
  · have hr := cond_t hb hr
    refine Tr.seq ?_
    refine Tr.region_f (fun _ => false) ?_
    refine W.q rfl rfl rfl rfl (by decide) (Yd.mv rfl (.t rfl)) ?_
    refine W.q rfl rfl rfl rfl (by decide) (Yd.mv rfl (.t rfl)) ?_
    refine W.q rfl rfl rfl rfl (by decide) (Yd.eql rfl (.t rfl) (.t rfl)) ?_
    refine W.q rfl rfl rfl rfl (by decide) (Yd.mv rfl (.t rfl)) ?_
    refine W.g rfl rfl rfl rfl rfl (.t rfl _) rfl (by decide) (fun hG => Yd.mv rfl (.t rfl)) ?_
    refine W.g rfl rfl rfl rfl rfl (.t rfl _) rfl (by decide) (fun hG => Yd.lenR hu5 rfl Try.underlying23 (.g rfl hG)) ?_
    refine W.g rfl rfl rfl rfl rfl (.t rfl _) rfl (by decide) (fun hG => Yd.eql rfl (.g rfl hG) .c) ?_
    refine W.q rfl rfl rfl rfl (by decide) (Yd.and rfl (.t rfl) .c rfl rfl) ?_
    refine W.q rfl rfl rfl rfl (by decide) (Yd.as rfl (.t rfl)) ?_
    refine W.end ?_
    refine NX.sub (env' := [(6, _)]) ⟨rfl, trivial⟩ ?_
    refine NX.then ?_
    refine Tr.ret' (RT.then ?_)
    refine res1 rfl rfl ?_
    intro w hc
    cases hr
    exact ⟨rfl, (cX_le (x := ⟨m, _⟩) ⟨hsm4, [], rfl⟩ hc)⟩
  · have hr := cond_f hb hr
    refine Tr.skip' ?_
    refine NX.then ?_
    refine Tr.seq ?_
    obtain ⟨r8, hr9, hr⟩ := bind_some hr
    refine Tr.region_f (fun i => Nat.beq i 3) ?_
    refine W.q rfl rfl rfl rfl (by decide) (Yd.mv rfl (.t rfl)) ?_
    refine W.q rfl rfl rfl rfl (by decide) (Yd.mv rfl (.t rfl)) ?_
    refine W.q rfl rfl rfl rfl (by decide) (Yd.mv rfl (.t rfl)) ?_
    refine W.e rfl rfl rfl rfl (by decide) (Ef.call (R := fun z x' => ∃ u10 : Value, ∃ m11 : Snap, z = .tuple #[.int .i64 r8.1, u10] ∧ x' = ⟨m11, l⟩ ∧ Sle m4 m11 ∧ RS (Rp.slice rU) m11 u10 r8.2) rfl Try.func15 rfl rfl (.cons (.t rfl) (.cons (.t rfl) (.cons (.t rfl) .nil))) (fun w hw => (syllogistref_Rounds_ok w0 _ _ fuel n_0 _ _ hm_1 _ _ hchains_2 _ hr9 w hw).mono fun e w' ⟨u10, m11, he, hm', hu12, hc'⟩ => ⟨_, _, he, ⟨u10, m11, rfl, rfl, hm', hu12⟩, hc'⟩)) ?_
    rintro _ _ ⟨u10, m11, rfl, rfl, hsm11, hu12⟩
    have hm_1 := hm_1.mono hsm11
    have hchains_2 := hchains_2.mono hsm11
    have hu5 := hu5.mono hsm11
    refine ⟨.inl rfl, ?_⟩
    refine W.cast (m' := m11) (l' := l) rfl rfl ?_
    refine W.q rfl rfl rfl rfl (by decide) (Yd.mv rfl (.t rfl)) ?_
    refine W.q rfl rfl rfl rfl (by decide) (Yd.ext rfl (.t rfl) rfl) ?_
    refine W.q rfl rfl rfl rfl (by decide) (Yd.ext rfl (.t rfl) rfl) ?_
    refine W.q rfl rfl rfl rfl (by decide) (Yd.as rfl (.t rfl)) ?_
    refine W.q rfl rfl rfl rfl (by decide) (Yd.as rfl (.t rfl)) ?_
    refine W.end ?_
    refine NX.sub (env' := [(7, _), (8, _), (11, _)]) ⟨rfl, rfl, rfl, trivial⟩ ?_
    refine NX.then ?_
    refine Tr.seq ?_
    obtain ⟨ha13, hr⟩ := guard_some hr
    refine Tr.region_f (fun _ => false) ?_
    refine W.q rfl rfl rfl rfl (by decide) (Yd.mv rfl (.t rfl)) ?_
    refine W.q rfl rfl rfl rfl (by decide) (Yd.eql rfl (.t rfl) .c) ?_
    refine W.q rfl rfl rfl rfl (by decide) (Yd.mv rfl (.t rfl)) ?_
    refine W.g rfl rfl rfl rfl rfl (.t rfl _) rfl (by decide) (fun hG => Yd.mv rfl (.t rfl)) ?_
    refine W.g rfl rfl rfl rfl rfl (.t rfl _) rfl (by decide) (fun hG => Yd.mv rfl (.t rfl)) ?_
    refine W.g rfl rfl rfl rfl rfl (.t rfl _) rfl (by decide) (fun hG => Yd.call (v := .bool ((((syllogistref_Matrices r1.1 r8.2).getD false)))) rfl Try.func16 rfl rfl (.cons (.g rfl hG) (.cons (.g rfl hG) .nil)) (fun x' hx w hw => syllogistref_Matrices_ok w0 x'.m x'.l _ _ (hu5.mono hx.1) _ _ (hu12.mono hx.1) _ (gd_get (d := false) ha13 hG) w hw)) ?_
    refine W.q rfl rfl rfl rfl (by decide) (Yd.and rfl (.t rfl) .c rfl rfl) ?_
    refine W.q rfl rfl rfl rfl (by decide) (Yd.as rfl (.t rfl)) ?_
    refine W.end ?_
    refine NX.sub (env' := [(6, _)]) ⟨rfl, trivial⟩ ?_
    refine NX.then ?_
    refine Tr.ret' ?_
    refine res1 rfl rfl ?_
    intro w hc
    cases hr
    exact ⟨rfl, (cX_le (x := ⟨m, _⟩) ⟨(hsm4.trans hsm11), [], rfl⟩ hc)⟩

def rights_Steps_k16 : Option (Int × Int) :=
  some (((0 : Int), (5 : Int)))

def rights_Steps_b18 (chains_2 : List Chain) (x_3 : Int) (y_4 : Int) (right_5 : (BitVec 32)) (m_9 : List (List (BitVec 32))) (more_12 : Bool) (k_13 : Int) (nx19 : ((List (List (BitVec 32))) × Bool × Int) → Option (Int × Int)) : Option (Int × Int) :=
  (bif more_12 then
  (geti m_9 x_3).bind fun y21 =>
  (geti y21 y_4).bind fun y26 =>
  (bif ((right_5 &&& ~~~y26) == 0#32) then
  some ((k_13, (0 : Int)))
  else
  (rights_round m_9 chains_2).bind fun r28 =>
  nx19 (r28.1, r28.2, (w64 (k_13 + (1 : Int)))))
  else
  rights_Steps_k16)

def rights_Steps (fuel : Nat) (n_0 : Int) (m_1 : List (List (BitVec 32))) (chains_2 : List Chain) (x_3 : Int) (y_4 : Int) (right_5 : (BitVec 32)) : Option (Int × Int) :=
  (rights_wrong n_0 m_1 chains_2).bind fun r1 =>
  (bif (r1 != (0 : Int)) then
  some (((0 : Int), r1))
  else
  (bif ((decide ((if y_4 < x_3 then y_4 else x_3) < (0 : Int))) || (decide ((if y_4 > x_3 then y_4 else x_3) ≥ n_0))) then
  some (((0 : Int), (2 : Int)))
  else
  whileK (σ := (List (List (BitVec 32))) × Bool × Int) (fun s nx_ => rights_Steps_b18 chains_2 x_3 y_4 right_5 s.1 s.2.1 s.2.2 nx_) fuel (m_1, true, ((0 : Int)))))

set_option maxRecDepth 100000 in
theorem rights_Steps_ok (w0 : World) (m : Snap) (l : List HI) (fuel : Nat) (n_0 : Int) (um_1 : Value) (m_1 : List (List (BitVec 32))) (hm_1 : RS (Rp.slice rU) m um_1 m_1) (uchains_2 : Value) (chains_2 : List Chain) (hchains_2 : RS rChain m uchains_2 chains_2) (x_3 : Int) (y_4 : Int) (right_5 : (BitVec 32)) (r : Int × Int) (hr : rights_Steps fuel n_0 m_1 chains_2 x_3 y_4 right_5 = some r) (w : World) (hc : cX w0 ⟨m, l⟩ w) :
    Calls Try.prog 17 [.int .i64 n_0, um_1, uchains_2, .int .i64 x_3, .int .i64 y_4, .int .u32 (right_5.toNat : Int)].toArray w fun e w' => e = .returned (.tuple #[.int .i64 r.1, .int .i64 r.2]) ∧ cX w0 ⟨m, l⟩ w' := by
  unfold rights_Steps at hr
  refine calls_of_Tr (N := 55) Try.func17 rfl hc rfl (Nat.le_of_ble_eq_true rfl) ?_
  refine Tr.seq ?_
  refine Tr.region_f (fun _ => false) ?_
  refine W.q rfl rfl rfl rfl (by decide) (Yd.as rfl .c) ?_
  refine W.q rfl rfl rfl rfl (by decide) (Yd.as rfl .c) ?_
  refine W.end ?_
  refine NX.sub (env' := [(0, _), (1, _), (2, _), (3, _), (4, _), (5, _)]) ⟨rfl, rfl, rfl, rfl, rfl, rfl, trivial⟩ ?_
  refine NX.then ?_
  refine Tr.seq ?_
  refine Tr.seq ?_
  obtain ⟨r1, hr2, hr⟩ := bind_some hr
  refine Tr.region_f (fun _ => false) ?_
  refine W.q rfl rfl rfl rfl (by decide) (Yd.mv rfl (.t rfl)) ?_
  refine W.q rfl rfl rfl rfl (by decide) (Yd.mv rfl (.t rfl)) ?_
  refine W.q rfl rfl rfl rfl (by decide) (Yd.mv rfl (.t rfl)) ?_
  refine W.q rfl rfl rfl rfl (by decide) (Yd.call (v := .int .i64 r1) rfl Try.func43 rfl rfl (.cons (.t rfl) (.cons (.t rfl) (.cons (.t rfl) .nil))) (fun x' hx w hw => rights_wrong_ok w0 x'.m x'.l n_0 _ _ (hm_1.mono hx.1) _ _ (hchains_2.mono hx.1) _ hr2 w hw)) ?_
  refine W.q rfl rfl rfl rfl (by decide) (Yd.as rfl (.t rfl)) ?_
  refine W.end ?_
  refine NX.sub (env' := [(0, _), (1, _), (2, _), (3, _), (4, _), (5, _), (14, _)]) ⟨rfl, rfl, rfl, rfl, rfl, rfl, rfl, trivial⟩ ?_
  refine NX.then ?_
  refine Tr.seq ?_
  refine Tr.region_f (fun _ => false) ?_
  refine W.q rfl rfl rfl rfl (by decide) (Yd.mv rfl (.t rfl)) ?_
  refine W.q rfl rfl rfl rfl (by decide) (Yd.neq rfl (.t rfl) .c) ?_
  refine W.end ?_
  refine NX.sub (env' := [(0, _), (1, _), (2, _), (3, _), (4, _), (5, _), (14, _), (22, _)]) ⟨rfl, rfl, rfl, rfl, rfl, rfl, rfl, rfl, trivial⟩ ?_
  refine NX.then ?_
  refine Tr.cond (.t rfl) (fun hb => ?_) (fun hb => ?_)
  · have hr := cond_t hb hr
    refine Tr.seq ?_
    refine Tr.region_f (fun _ => false) ?_
    refine W.q rfl rfl rfl rfl (by decide) (Yd.mv rfl (.t rfl)) ?_
    refine W.q rfl rfl rfl rfl (by decide) (Yd.as rfl .c) ?_
    refine W.q rfl rfl rfl rfl (by decide) (Yd.as rfl (.t rfl)) ?_
    refine W.end ?_
    refine NX.sub (env' := [(12, _), (13, _)]) ⟨rfl, rfl, trivial⟩ ?_
    refine NX.then ?_
    refine Tr.ret' (RT.then ?_)
    refine res2 rfl rfl rfl ?_
    intro w hc
    cases hr
    exact ⟨rfl, hc⟩
  · have hr := cond_f hb hr
    refine Tr.skip' ?_
    refine NX.then ?_
    refine Tr.seq ?_
    refine Tr.seq ?_
    refine Tr.region_f (fun _ => false) ?_
    refine W.q rfl rfl rfl rfl (by decide) (Yd.mv rfl (.t rfl)) ?_
    refine W.q rfl rfl rfl rfl (by decide) (Yd.mv rfl (.t rfl)) ?_
    refine W.q rfl rfl rfl rfl (by decide) (Yd.min2 rfl (.t rfl) (.t rfl)) ?_
    refine W.q rfl rfl rfl rfl (by decide) (Yd.lss rfl (.t rfl) .c) ?_
    refine W.q rfl rfl rfl rfl (by decide) (Yd.mv rfl (.t rfl)) ?_
    refine W.g rfl rfl rfl rfl rfl (.t rfl _) rfl (by decide) (fun hG => Yd.mv rfl (.t rfl)) ?_
    refine W.g rfl rfl rfl rfl rfl (.t rfl _) rfl (by decide) (fun hG => Yd.mv rfl (.t rfl)) ?_
    refine W.g rfl rfl rfl rfl rfl (.t rfl _) rfl (by decide) (fun hG => Yd.max2 rfl (.g rfl hG) (.g rfl hG)) ?_
    refine W.g rfl rfl rfl rfl rfl (.t rfl _) rfl (by decide) (fun hG => Yd.mv rfl (.t rfl)) ?_
    refine W.g rfl rfl rfl rfl rfl (.t rfl _) rfl (by decide) (fun hG => Yd.geq rfl (.g rfl hG) (.g rfl hG)) ?_
    refine W.q rfl rfl rfl rfl (by decide) (Yd.or rfl (.t rfl) .c rfl rfl) ?_
    refine W.end ?_
    refine NX.sub (env' := [(1, _), (2, _), (3, _), (4, _), (5, _), (34, _)]) ⟨rfl, rfl, rfl, rfl, rfl, rfl, trivial⟩ ?_
    refine NX.then ?_
    refine Tr.cond (.t rfl) (fun hb => ?_) (fun hb => ?_)
    · have hr := cond_t hb hr
      refine Tr.seq ?_
      refine Tr.region_f (fun _ => false) ?_
      refine W.q rfl rfl rfl rfl (by decide) (Yd.as rfl .c) ?_
      refine W.q rfl rfl rfl rfl (by decide) (Yd.as rfl .c) ?_
      refine W.end ?_
      refine NX.sub (env' := [(12, _), (13, _)]) ⟨rfl, rfl, trivial⟩ ?_
      refine NX.then ?_
      refine Tr.ret' (RT.then ?_)
      refine res2 rfl rfl rfl ?_
      intro w hc
      cases hr
      exact ⟨rfl, hc⟩
    · have hr := cond_f hb hr
      refine Tr.skip' ?_
      refine NX.then ?_
      refine Tr.seq ?_
      refine Tr.region_f (fun _ => false) ?_
      refine W.q rfl rfl rfl rfl (by decide) (Yd.as rfl .c) ?_
      refine W.end ?_
      refine NX.sub (env' := [(1, _), (2, _), (3, _), (4, _), (5, _), (15, _)]) ⟨rfl, rfl, rfl, rfl, rfl, rfl, trivial⟩ ?_
      refine NX.then ?_
      refine Tr.seq ?_
      refine Tr.seq ?_
      refine Tr.region_f (fun _ => false) ?_
      refine W.q rfl rfl rfl rfl (by decide) (Yd.as rfl .c) ?_
      refine W.end ?_
      refine NX.sub (env' := [(1, _), (2, _), (3, _), (4, _), (5, _), (15, _), (16, _)]) ⟨rfl, rfl, rfl, rfl, rfl, rfl, rfl, trivial⟩ ?_
      refine NX.then ?_
      refine Tr.join (S := fun env x => ∃ m15 : Snap, Sle m m15 ∧ env = [] ∧ x = ⟨m15, l⟩ ∧ rights_Steps_k16 = some r) ?_ (fun hk17 => ?_)
      · rintro _ _ ⟨m15, hsm15, rfl, rfl, hr⟩
        unfold rights_Steps_k16 at hr
        try dsimp only at hr
        have hm_1 := hm_1.mono hsm15
        have hchains_2 := hchains_2.mono hsm15
        refine NX.then ?_
        refine Tr.seq ?_
        refine Tr.region_f (fun _ => false) ?_
        refine W.q rfl rfl rfl rfl (by decide) (Yd.as rfl .c) ?_
        refine W.q rfl rfl rfl rfl (by decide) (Yd.as rfl .c) ?_
        refine W.end ?_
        refine NX.sub (env' := [(12, _), (13, _)]) ⟨rfl, rfl, trivial⟩ ?_
        refine NX.then ?_
        refine Tr.ret' ?_
        refine res2 rfl rfl rfl ?_
        intro w hc
        cases hr
        exact ⟨rfl, (cX_le (x := ⟨m, _⟩) ⟨hsm15, [], rfl⟩ hc)⟩
      refine Tr.block ?_
      refine Tr.sub (env' := [(1, _), (2, _), (3, _), (4, _), (5, _), (15, _), (16, _)]) ⟨rfl, rfl, rfl, rfl, rfl, rfl, rfl, trivial⟩ ?_
      refine Tr.loop (S := fun n (z : (List (List (BitVec 32))) × Bool × Int) env x => match z with | (m_9, more_12, k_13) => ∃ m14 : Snap, ∃ u10 : Value, Sle m m14 ∧ RS (Rp.slice rU) m14 u10 m_9 ∧ env = [(1, u10), (2, uchains_2), (3, .int .i64 x_3), (4, .int .i64 y_4), (5, .int .u32 (right_5.toNat : Int)), (15, .bool more_12), (16, .int .i64 k_13)] ∧ x = ⟨m14, l⟩ ∧ whileK (σ := (List (List (BitVec 32))) × Bool × Int) (fun s nx_ => rights_Steps_b18 chains_2 x_3 y_4 right_5 s.1 s.2.1 s.2.2 nx_) n (m_9, more_12, k_13) = some r) _ (m_1, true, (0 : Int)) ⟨_, _, (.refl _), hm_1, rfl, rfl, hr⟩ ?_
      rintro n20 ⟨m_9, more_12, k_13⟩ env x ⟨m14, u10, hsm14, hu11, rfl, rfl, hr⟩
      have hm_1 := hm_1.mono hsm14
      have hchains_2 := hchains_2.mono hsm14
      cases n20 with
      | zero => simp [whileK] at hr
      | succ n20 =>
        obtain ⟨nx19, hnx19, hr⟩ := whileK_succ hr
        try dsimp only at hr
        unfold rights_Steps_b18 at hr
        try dsimp only at hr
        refine Tr.seq ?_
        refine Tr.seq ?_
        refine Tr.region_f (fun _ => false) ?_
        refine W.q rfl rfl rfl rfl (by decide) (Yd.mv rfl (.t rfl)) ?_
        refine W.end ?_
        refine NX.sub (env' := [(1, _), (2, _), (3, _), (4, _), (5, _), (16, _), (35, _)]) ⟨rfl, rfl, rfl, rfl, rfl, rfl, rfl, trivial⟩ ?_
        refine NX.then ?_
        refine Tr.cond (.t rfl) (fun hb => ?_) (fun hb => ?_)
        · have hr := cond_t hb hr
          refine Tr.skip' ?_
          refine NX.then ?_
          refine Tr.seq ?_
          refine Tr.block ?_
          refine Tr.seq ?_
          refine Tr.seq ?_
          obtain ⟨y21, hy22, hr⟩ := bind_some hr
          obtain ⟨y26, hy27, hr⟩ := bind_some hr
          refine Tr.region_f (fun _ => false) ?_
          refine W.q rfl rfl rfl rfl (by decide) (Yd.mv rfl (.t rfl)) ?_
          refine W.q rfl rfl rfl rfl (by decide) (Yd.mv rfl (.t rfl)) ?_
          refine W.q rfl rfl rfl rfl (by decide) (Yd.mv rfl (.t rfl)) ?_
          refine W.q rfl rfl rfl rfl (by decide) (Yd.idxR hu11 hy22 rfl Try.underlying23 SZ38 (.t rfl) (.t rfl)) ?_
          obtain ⟨u23, hu24, hat25⟩ := hu11.row hy22
          refine W.q rfl rfl rfl rfl (by decide) (Yd.ldRow hat25 (.refl _) rfl ON38 (.t rfl)) ?_
          refine W.q rfl rfl rfl rfl (by decide) (Yd.mv rfl (.t rfl)) ?_
          refine W.q rfl rfl rfl rfl (by decide) (Yd.idxR hu24 hy27 rfl Try.underlying38 SZ33 (.t rfl) (.t rfl)) ?_
          refine W.q rfl rfl rfl rfl (by decide) (Yd.ldF hu24 (.refl _) hy27 rfl rfl ON33 (.t rfl)) ?_
          refine W.q rfl rfl rfl rfl (by decide) (Yd.andnU (a := right_5) (b := y26) rfl (.t rfl) (.t rfl)) ?_
          refine W.q rfl rfl rfl rfl (by decide) (Yd.eqlU (a := (right_5 &&& ~~~y26)) (b := 0#32) rfl (.t rfl) .c) ?_
          refine W.end ?_
          refine NX.sub (env' := [(1, _), (2, _), (3, _), (4, _), (5, _), (16, _), (47, _)]) ⟨rfl, rfl, rfl, rfl, rfl, rfl, rfl, trivial⟩ ?_
          refine NX.then ?_
          refine Tr.cond (.t rfl) (fun hb => ?_) (fun hb => ?_)
          · have hr := cond_t hb hr
            refine Tr.seq ?_
            refine Tr.region_f (fun _ => false) ?_
            refine W.q rfl rfl rfl rfl (by decide) (Yd.mv rfl (.t rfl)) ?_
            refine W.q rfl rfl rfl rfl (by decide) (Yd.as rfl (.t rfl)) ?_
            refine W.q rfl rfl rfl rfl (by decide) (Yd.as rfl .c) ?_
            refine W.end ?_
            refine NX.sub (env' := [(12, _), (13, _)]) ⟨rfl, rfl, trivial⟩ ?_
            refine NX.then ?_
            refine Tr.ret' (RT.then (RT.block (RT.then (RT.then (RT.block (RT.then ?_))))))
            refine res2 rfl rfl rfl ?_
            intro w hc
            cases hr
            exact ⟨rfl, (cX_le (x := ⟨m, _⟩) ⟨hsm14, [], rfl⟩ hc)⟩
          · have hr := cond_f hb hr
            refine Tr.skip' ?_
            refine NX.then ?_
            obtain ⟨r28, hr29, hr⟩ := bind_some hr
            refine Tr.region_f (fun i => Nat.beq i 2) ?_
            refine W.q rfl rfl rfl rfl (by decide) (Yd.mv rfl (.t rfl)) ?_
            refine W.q rfl rfl rfl rfl (by decide) (Yd.mv rfl (.t rfl)) ?_
            refine W.e rfl rfl rfl rfl (by decide) (Ef.call (R := fun z x' => ∃ u30 : Value, ∃ m31 : Snap, z = .tuple #[u30, .bool r28.2] ∧ x' = ⟨m31, l⟩ ∧ Sle m14 m31 ∧ RS (Rp.slice rU) m31 u30 r28.1) rfl Try.func44 rfl rfl (.cons (.t rfl) (.cons (.t rfl) .nil)) (fun w hw => (rights_round_ok w0 _ _ _ _ hu11 _ _ hchains_2 _ hr29 w hw).mono fun e w' ⟨u30, m31, he, hm', hu32, hc'⟩ => ⟨_, _, he, ⟨u30, m31, rfl, rfl, hm', hu32⟩, hc'⟩)) ?_
            rintro _ _ ⟨u30, m31, rfl, rfl, hsm31, hu32⟩
            have hm_1 := hm_1.mono hsm31
            have hchains_2 := hchains_2.mono hsm31
            have hu11 := hu11.mono hsm31
            have hu24 := hu24.mono hsm31
            refine ⟨.inl rfl, ?_⟩
            refine W.cast (m' := m31) (l' := l) rfl rfl ?_
            refine W.q rfl rfl rfl rfl (by decide) (Yd.mv rfl (.t rfl)) ?_
            refine W.q rfl rfl rfl rfl (by decide) (Yd.ext rfl (.t rfl) rfl) ?_
            refine W.q rfl rfl rfl rfl (by decide) (Yd.ext rfl (.t rfl) rfl) ?_
            refine W.q rfl rfl rfl rfl (by decide) (Yd.as rfl (.t rfl)) ?_
            refine W.q rfl rfl rfl rfl (by decide) (Yd.as rfl (.t rfl)) ?_
            refine W.end ?_
            refine NX.sub (env' := [(1, _), (2, _), (3, _), (4, _), (5, _), (16, _), (15, _)]) ⟨rfl, rfl, rfl, rfl, rfl, rfl, rfl, trivial⟩ ?_
            refine NX.block ?_
            refine NX.then ?_
            refine Tr.region_f (fun _ => false) ?_
            refine W.q rfl rfl rfl rfl (by decide) (Yd.mv rfl (.t rfl)) ?_
            refine W.q rfl rfl rfl rfl (by decide) (Yd.add rfl (.t rfl) .c) ?_
            refine W.q rfl rfl rfl rfl (by decide) (Yd.as rfl (.t rfl)) ?_
            refine W.end ?_
            refine NX.sub (env' := [(1, _), (2, _), (3, _), (4, _), (5, _), (16, _), (15, _)]) ⟨rfl, rfl, rfl, rfl, rfl, rfl, rfl, trivial⟩ ?_
            refine NX.sub (env' := [(1, _), (2, _), (3, _), (4, _), (5, _), (15, _), (16, _)]) ⟨rfl, rfl, rfl, rfl, rfl, rfl, rfl, trivial⟩ ?_
            exact NX.again n20 (r28.1, r28.2, (w64 (k_13 + (1 : Int)))) (Nat.lt_succ_self _) ⟨_, _, (hsm14.trans hsm31), hu32, rfl, rfl, ((hnx19 _).symm.trans hr)⟩
        · have hr := cond_f hb hr
          refine Tr.exit' (EX.then (EX.then (EX.block ?_)))
          refine NX.sub (env' := []) trivial ?_
          exact hk17 _ _ ⟨_, hsm14, rfl, rfl, hr⟩

def syllogistlaw_cellCode (n_0 : Int) (m_1 : List (List (BitVec 32))) (chains_2 : List Chain) (a_3 : Int) (b_4 : Int) : Option (Int) :=
  (syllogistref_MatrixCheck n_0 m_1 chains_2).bind fun r1 =>
  (bif ((r1 == (0 : Int)) && ((((decide (a_3 < (0 : Int))) || (decide (a_3 ≥ n_0))) || (decide (b_4 < (0 : Int)))) || (decide (b_4 ≥ n_0)))) then
  some ((2 : Int))
  else
  some r1)

set_option maxRecDepth 100000 in
theorem syllogistlaw_cellCode_ok (w0 : World) (m : Snap) (l : List HI) (n_0 : Int) (um_1 : Value) (m_1 : List (List (BitVec 32))) (hm_1 : RS (Rp.slice rU) m um_1 m_1) (uchains_2 : Value) (chains_2 : List Chain) (hchains_2 : RS rChain m uchains_2 chains_2) (a_3 : Int) (b_4 : Int) (r : Int) (hr : syllogistlaw_cellCode n_0 m_1 chains_2 a_3 b_4 = some r) (w : World) (hc : cX w0 ⟨m, l⟩ w) :
    Calls Try.prog 18 [.int .i64 n_0, um_1, uchains_2, .int .i64 a_3, .int .i64 b_4].toArray w fun e w' => e = .returned (.int .i64 r) ∧ cX w0 ⟨m, l⟩ w' := by
  unfold syllogistlaw_cellCode at hr
  refine calls_of_Tr (N := 37) Try.func18 rfl hc rfl (Nat.le_of_ble_eq_true rfl) ?_
  refine Tr.seq ?_
  refine Tr.region_f (fun _ => false) ?_
  refine W.q rfl rfl rfl rfl (by decide) (Yd.as rfl .c) ?_
  refine W.end ?_
  refine NX.sub (env' := [(0, _), (1, _), (2, _), (3, _), (4, _)]) ⟨rfl, rfl, rfl, rfl, rfl, trivial⟩ ?_
  refine NX.then ?_
  refine Tr.seq ?_
  obtain ⟨r1, hr2, hr⟩ := bind_some hr
  refine Tr.region_f (fun _ => false) ?_
  refine W.q rfl rfl rfl rfl (by decide) (Yd.mv rfl (.t rfl)) ?_
  refine W.q rfl rfl rfl rfl (by decide) (Yd.mv rfl (.t rfl)) ?_
  refine W.q rfl rfl rfl rfl (by decide) (Yd.mv rfl (.t rfl)) ?_
  refine W.q rfl rfl rfl rfl (by decide) (Yd.call (v := .int .i64 r1) rfl Try.func14 rfl rfl (.cons (.t rfl) (.cons (.t rfl) (.cons (.t rfl) .nil))) (fun x' hx w hw => syllogistref_MatrixCheck_ok w0 x'.m x'.l n_0 _ _ (hm_1.mono hx.1) _ _ (hchains_2.mono hx.1) _ hr2 w hw)) ?_
  refine W.q rfl rfl rfl rfl (by decide) (Yd.as rfl (.t rfl)) ?_
  refine W.end ?_
  refine NX.sub (env' := [(0, _), (3, _), (4, _), (11, _)]) ⟨rfl, rfl, rfl, rfl, trivial⟩ ?_
  refine NX.then ?_
  refine Tr.seq ?_
  refine Tr.seq ?_
  refine Tr.region_f (fun _ => false) ?_
  refine W.q rfl rfl rfl rfl (by decide) (Yd.mv rfl (.t rfl)) ?_
  refine W.q rfl rfl rfl rfl (by decide) (Yd.eql rfl (.t rfl) .c) ?_
  refine W.q rfl rfl rfl rfl (by decide) (Yd.mv rfl (.t rfl)) ?_
  refine W.g rfl rfl rfl rfl rfl (.t rfl _) rfl (by decide) (fun hG => Yd.mv rfl (.t rfl)) ?_
  refine W.g rfl rfl rfl rfl rfl (.t rfl _) rfl (by decide) (fun hG => Yd.lss rfl (.g rfl hG) .c) ?_
  refine W.g rfl rfl rfl rfl rfl (.t rfl _) rfl (by decide) (fun hG => Yd.mv rfl (.g rfl hG)) ?_
  refine W.g rfl rfl rfl rfl rfl (.g rfl _) rfl (by decide) (fun hG => Yd.mv rfl (.t rfl)) ?_
  refine W.g rfl rfl rfl rfl rfl (.g rfl _) rfl (by decide) (fun hG => Yd.mv rfl (.t rfl)) ?_
  refine W.g rfl rfl rfl rfl rfl (.g rfl _) rfl (by decide) (fun hG => Yd.geq rfl (.g rfl hG) (.g rfl hG)) ?_
  refine W.g rfl rfl rfl rfl rfl (.t rfl _) rfl (by decide) (fun hG => Yd.orG rfl (.g rfl hG) .c rfl rfl hG) ?_
  refine W.g rfl rfl rfl rfl rfl (.t rfl _) rfl (by decide) (fun hG => Yd.mv rfl (.g rfl hG)) ?_
  refine W.g rfl rfl rfl rfl rfl (.g rfl _) rfl (by decide) (fun hG => Yd.mv rfl (.t rfl)) ?_
  refine W.g rfl rfl rfl rfl rfl (.g rfl _) rfl (by decide) (fun hG => Yd.lss rfl (.g rfl hG) .c) ?_
  refine W.g rfl rfl rfl rfl rfl (.t rfl _) rfl (by decide) (fun hG => Yd.orG rfl (.g rfl hG) .c rfl rfl hG) ?_
  refine W.g rfl rfl rfl rfl rfl (.t rfl _) rfl (by decide) (fun hG => Yd.mv rfl (.g rfl hG)) ?_
  refine W.g rfl rfl rfl rfl rfl (.g rfl _) rfl (by decide) (fun hG => Yd.mv rfl (.t rfl)) ?_
  refine W.g rfl rfl rfl rfl rfl (.g rfl _) rfl (by decide) (fun hG => Yd.mv rfl (.t rfl)) ?_
  refine W.g rfl rfl rfl rfl rfl (.g rfl _) rfl (by decide) (fun hG => Yd.geq rfl (.g rfl hG) (.g rfl hG)) ?_
  refine W.g rfl rfl rfl rfl rfl (.t rfl _) rfl (by decide) (fun hG => Yd.orG rfl (.g rfl hG) .c rfl rfl hG) ?_
  refine W.q rfl rfl rfl rfl (by decide) (Yd.and rfl (.t rfl) .c rfl rfl) ?_
  refine W.end ?_
  refine NX.sub (env' := [(11, _), (35, _)]) ⟨rfl, rfl, trivial⟩ ?_
  refine NX.then ?_
  refine Tr.cond (.t rfl) (fun hb => ?_) (fun hb => ?_)
  · have hr := cond_t hb hr
    refine Tr.region_f (fun _ => false) ?_
    refine W.q rfl rfl rfl rfl (by decide) (Yd.as rfl .c) ?_
    refine W.end ?_
    refine NX.sub (env' := [(11, _)]) ⟨rfl, trivial⟩ ?_
    refine NX.then ?_
    refine Tr.seq ?_
    refine Tr.region_f (fun _ => false) ?_
    refine W.q rfl rfl rfl rfl (by decide) (Yd.mv rfl (.t rfl)) ?_
    refine W.q rfl rfl rfl rfl (by decide) (Yd.as rfl (.t rfl)) ?_
    refine W.end ?_
    refine NX.sub (env' := [(10, _)]) ⟨rfl, trivial⟩ ?_
    refine NX.then ?_
    refine Tr.ret' ?_
    refine res1 rfl rfl ?_
    intro w hc
    cases hr
    exact ⟨rfl, hc⟩
  · have hr := cond_f hb hr
    refine Tr.skip' ?_
    refine NX.then ?_
    refine Tr.seq ?_
    refine Tr.region_f (fun _ => false) ?_
    refine W.q rfl rfl rfl rfl (by decide) (Yd.mv rfl (.t rfl)) ?_
    refine W.q rfl rfl rfl rfl (by decide) (Yd.as rfl (.t rfl)) ?_
    refine W.end ?_
    refine NX.sub (env' := [(10, _)]) ⟨rfl, trivial⟩ ?_
    refine NX.then ?_
    refine Tr.ret' ?_
    refine res1 rfl rfl ?_
    intro w hc
    cases hr
    exact ⟨rfl, hc⟩

def syllogistlaw_RightsSteps_k31 (r1 : Int × Int) (want_29 : Int) : Option (Bool) :=
  some (((r1.2 == (0 : Int)) && (r1.1 == want_29)))

def syllogistlaw_RightsSteps_b33 (n_0 : Int) (chains_2 : List Chain) (a_3 : Int) (b_4 : Int) (right_5 : (BitVec 32)) (r1 : Int × Int) (r5 : Int × (List (List (BitVec 32)))) (m_24 : List (List (BitVec 32))) (want_27 : Int) (nx34 : ((List (List (BitVec 32))) × Int) → Option (Bool)) : Option (Bool) :=
  bif (!((decide (want_27 < r5.1)) == true) || (geti m_24 a_3).isSome) then
  bif (!((decide (want_27 < r5.1)) == true) || (geti (((geti m_24 a_3).getD [])) b_4).isSome) then
  bif (!((decide (want_27 < r5.1)) == true) || (syllogistref_In right_5 (((geti (((geti m_24 a_3).getD [])) b_4).getD (0#32)))).isSome) then
  (bif ((decide (want_27 < r5.1)) && (!(((syllogistref_In right_5 (((geti (((geti m_24 a_3).getD [])) b_4).getD (0#32)))).getD false)))) then
  (syllogistref_Round n_0 m_24 chains_2).bind fun r42 =>
  nx34 (r42, (w64 (want_27 + (1 : Int))))
  else
  syllogistlaw_RightsSteps_k31 r1 want_27) else none else none else none

def syllogistlaw_RightsSteps (fuel : Nat) (n_0 : Int) (m_1 : List (List (BitVec 32))) (chains_2 : List Chain) (a_3 : Int) (b_4 : Int) (right_5 : (BitVec 32)) : Option (Bool) :=
  (rights_Steps fuel n_0 m_1 chains_2 a_3 b_4 right_5).bind fun r1 =>
  (syllogistlaw_cellCode n_0 m_1 chains_2 a_3 b_4).bind fun r3 =>
  (bif (r3 != (0 : Int)) then
  some (((r1.2 == r3) && (r1.1 == (0 : Int))))
  else
  (syllogistref_Rounds fuel n_0 m_1 chains_2).bind fun r5 =>
  (geti r5.2 a_3).bind fun y10 =>
  (geti y10 b_4).bind fun y15 =>
  (syllogistref_In right_5 y15).bind fun r17 =>
  (bif (!r17) then
  some (((r1.2 == (5 : Int)) && (r1.1 == (0 : Int))))
  else
  whileK (σ := (List (List (BitVec 32))) × Int) (fun s nx_ => syllogistlaw_RightsSteps_b33 n_0 chains_2 a_3 b_4 right_5 r1 r5 s.1 s.2 nx_) fuel (m_1, ((0 : Int)))))

set_option maxRecDepth 100000 in
theorem syllogistlaw_RightsSteps_ok (w0 : World) (m : Snap) (l : List HI) (fuel : Nat) (n_0 : Int) (um_1 : Value) (m_1 : List (List (BitVec 32))) (hm_1 : RS (Rp.slice rU) m um_1 m_1) (uchains_2 : Value) (chains_2 : List Chain) (hchains_2 : RS rChain m uchains_2 chains_2) (a_3 : Int) (b_4 : Int) (right_5 : (BitVec 32)) (r : Bool) (hr : syllogistlaw_RightsSteps fuel n_0 m_1 chains_2 a_3 b_4 right_5 = some r) (w : World) (hc : cX w0 ⟨m, l⟩ w) :
    Calls Try.prog 4 [.int .i64 n_0, um_1, uchains_2, .int .i64 a_3, .int .i64 b_4, .int .u32 (right_5.toNat : Int)].toArray w fun e w' => e = .returned (.bool r) ∧ cX w0 ⟨m, l⟩ w' := by
  unfold syllogistlaw_RightsSteps at hr
  refine calls_of_Tr (N := 95) Try.func4 rfl hc rfl (Nat.le_of_ble_eq_true rfl) ?_
  refine Tr.seq ?_
  refine Tr.region_f (fun _ => false) ?_
  refine W.q rfl rfl rfl rfl (by decide) (Yd.as rfl .c) ?_
  refine W.end ?_
  refine NX.sub (env' := [(0, _), (1, _), (2, _), (3, _), (4, _), (5, _)]) ⟨rfl, rfl, rfl, rfl, rfl, rfl, trivial⟩ ?_
  refine NX.then ?_
  refine Tr.seq ?_
  obtain ⟨r1, hr2, hr⟩ := bind_some hr
  refine Tr.region_f (fun _ => false) ?_
  refine W.q rfl rfl rfl rfl (by decide) (Yd.mv rfl (.t rfl)) ?_
  refine W.q rfl rfl rfl rfl (by decide) (Yd.mv rfl (.t rfl)) ?_
  refine W.q rfl rfl rfl rfl (by decide) (Yd.mv rfl (.t rfl)) ?_
  refine W.q rfl rfl rfl rfl (by decide) (Yd.mv rfl (.t rfl)) ?_
  refine W.q rfl rfl rfl rfl (by decide) (Yd.mv rfl (.t rfl)) ?_
  refine W.q rfl rfl rfl rfl (by decide) (Yd.mv rfl (.t rfl)) ?_
  refine W.q rfl rfl rfl rfl (by decide) (Yd.call (v := .tuple #[.int .i64 r1.1, .int .i64 r1.2]) rfl Try.func17 rfl rfl (.cons (.t rfl) (.cons (.t rfl) (.cons (.t rfl) (.cons (.t rfl) (.cons (.t rfl) (.cons (.t rfl) .nil)))))) (fun x' hx w hw => rights_Steps_ok w0 x'.m x'.l fuel n_0 _ _ (hm_1.mono hx.1) _ _ (hchains_2.mono hx.1) a_3 b_4 right_5 _ hr2 w hw)) ?_
  refine W.q rfl rfl rfl rfl (by decide) (Yd.mv rfl (.t rfl)) ?_
  refine W.q rfl rfl rfl rfl (by decide) (Yd.ext rfl (.t rfl) rfl) ?_
  refine W.q rfl rfl rfl rfl (by decide) (Yd.ext rfl (.t rfl) rfl) ?_
  refine W.q rfl rfl rfl rfl (by decide) (Yd.as rfl (.t rfl)) ?_
  refine W.q rfl rfl rfl rfl (by decide) (Yd.as rfl (.t rfl)) ?_
  refine W.end ?_
  refine NX.sub (env' := [(0, _), (1, _), (2, _), (3, _), (4, _), (5, _), (13, _), (14, _)]) ⟨rfl, rfl, rfl, rfl, rfl, rfl, rfl, rfl, trivial⟩ ?_
  refine NX.then ?_
  refine Tr.seq ?_
  obtain ⟨r3, hr4, hr⟩ := bind_some hr
  refine Tr.region_f (fun _ => false) ?_
  refine W.q rfl rfl rfl rfl (by decide) (Yd.mv rfl (.t rfl)) ?_
  refine W.q rfl rfl rfl rfl (by decide) (Yd.mv rfl (.t rfl)) ?_
  refine W.q rfl rfl rfl rfl (by decide) (Yd.mv rfl (.t rfl)) ?_
  refine W.q rfl rfl rfl rfl (by decide) (Yd.mv rfl (.t rfl)) ?_
  refine W.q rfl rfl rfl rfl (by decide) (Yd.mv rfl (.t rfl)) ?_
  refine W.q rfl rfl rfl rfl (by decide) (Yd.call (v := .int .i64 r3) rfl Try.func18 rfl rfl (.cons (.t rfl) (.cons (.t rfl) (.cons (.t rfl) (.cons (.t rfl) (.cons (.t rfl) .nil))))) (fun x' hx w hw => syllogistlaw_cellCode_ok w0 x'.m x'.l n_0 _ _ (hm_1.mono hx.1) _ _ (hchains_2.mono hx.1) a_3 b_4 _ hr4 w hw)) ?_
  refine W.q rfl rfl rfl rfl (by decide) (Yd.as rfl (.t rfl)) ?_
  refine W.end ?_
  refine NX.sub (env' := [(0, _), (1, _), (2, _), (3, _), (4, _), (5, _), (13, _), (14, _), (15, _)]) ⟨rfl, rfl, rfl, rfl, rfl, rfl, rfl, rfl, rfl, trivial⟩ ?_
  refine NX.then ?_
  refine Tr.seq ?_
  refine Tr.seq ?_
  refine Tr.region_f (fun _ => false) ?_
  refine W.q rfl rfl rfl rfl (by decide) (Yd.mv rfl (.t rfl)) ?_
  refine W.q rfl rfl rfl rfl (by decide) (Yd.neq rfl (.t rfl) .c) ?_
  refine W.end ?_
  refine NX.sub (env' := [(0, _), (1, _), (2, _), (3, _), (4, _), (5, _), (13, _), (14, _), (15, _), (36, _)]) ⟨rfl, rfl, rfl, rfl, rfl, rfl, rfl, rfl, rfl, rfl, trivial⟩ ?_
  refine NX.then ?_
  refine Tr.cond (.t rfl) (fun hb => ?_) (fun hb => ?_)
  · have hr := cond_t hb hr
    refine Tr.seq ?_
    refine Tr.region_f (fun _ => false) ?_
    refine W.q rfl rfl rfl rfl (by decide) (Yd.mv rfl (.t rfl)) ?_
    refine W.q rfl rfl rfl rfl (by decide) (Yd.mv rfl (.t rfl)) ?_
    refine W.q rfl rfl rfl rfl (by decide) (Yd.eql rfl (.t rfl) (.t rfl)) ?_
    refine W.q rfl rfl rfl rfl (by decide) (Yd.mv rfl (.t rfl)) ?_
    refine W.g rfl rfl rfl rfl rfl (.t rfl _) rfl (by decide) (fun hG => Yd.mv rfl (.t rfl)) ?_
    refine W.g rfl rfl rfl rfl rfl (.t rfl _) rfl (by decide) (fun hG => Yd.eql rfl (.g rfl hG) .c) ?_
    refine W.q rfl rfl rfl rfl (by decide) (Yd.and rfl (.t rfl) .c rfl rfl) ?_
    refine W.q rfl rfl rfl rfl (by decide) (Yd.as rfl (.t rfl)) ?_
    refine W.end ?_
    refine NX.sub (env' := [(12, _)]) ⟨rfl, trivial⟩ ?_
    refine NX.then ?_
    refine Tr.ret' (RT.then ?_)
    refine res1 rfl rfl ?_
    intro w hc
    cases hr
    exact ⟨rfl, hc⟩
  · have hr := cond_f hb hr
    refine Tr.skip' ?_
    refine NX.then ?_
    refine Tr.seq ?_
    obtain ⟨r5, hr6, hr⟩ := bind_some hr
    refine Tr.region_f (fun i => Nat.beq i 3) ?_
    refine W.q rfl rfl rfl rfl (by decide) (Yd.mv rfl (.t rfl)) ?_
    refine W.q rfl rfl rfl rfl (by decide) (Yd.mv rfl (.t rfl)) ?_
    refine W.q rfl rfl rfl rfl (by decide) (Yd.mv rfl (.t rfl)) ?_
    refine W.e rfl rfl rfl rfl (by decide) (Ef.call (R := fun z x' => ∃ u7 : Value, ∃ m8 : Snap, z = .tuple #[.int .i64 r5.1, u7] ∧ x' = ⟨m8, l⟩ ∧ Sle m m8 ∧ RS (Rp.slice rU) m8 u7 r5.2) rfl Try.func15 rfl rfl (.cons (.t rfl) (.cons (.t rfl) (.cons (.t rfl) .nil))) (fun w hw => (syllogistref_Rounds_ok w0 _ _ fuel n_0 _ _ hm_1 _ _ hchains_2 _ hr6 w hw).mono fun e w' ⟨u7, m8, he, hm', hu9, hc'⟩ => ⟨_, _, he, ⟨u7, m8, rfl, rfl, hm', hu9⟩, hc'⟩)) ?_
    rintro _ _ ⟨u7, m8, rfl, rfl, hsm8, hu9⟩
    have hm_1 := hm_1.mono hsm8
    have hchains_2 := hchains_2.mono hsm8
    refine ⟨.inl rfl, ?_⟩
    refine W.cast (m' := m8) (l' := l) rfl rfl ?_
    refine W.q rfl rfl rfl rfl (by decide) (Yd.mv rfl (.t rfl)) ?_
    refine W.q rfl rfl rfl rfl (by decide) (Yd.ext rfl (.t rfl) rfl) ?_
    refine W.q rfl rfl rfl rfl (by decide) (Yd.ext rfl (.t rfl) rfl) ?_
    refine W.q rfl rfl rfl rfl (by decide) (Yd.as rfl (.t rfl)) ?_
    refine W.q rfl rfl rfl rfl (by decide) (Yd.as rfl (.t rfl)) ?_
    refine W.end ?_
    refine NX.sub (env' := [(0, _), (1, _), (2, _), (3, _), (4, _), (5, _), (13, _), (14, _), (16, _), (17, _)]) ⟨rfl, rfl, rfl, rfl, rfl, rfl, rfl, rfl, rfl, rfl, trivial⟩ ?_
    refine NX.then ?_
    refine Tr.seq ?_
    refine Tr.seq ?_
    obtain ⟨y10, hy11, hr⟩ := bind_some hr
    obtain ⟨y15, hy16, hr⟩ := bind_some hr
    obtain ⟨r17, hr18, hr⟩ := bind_some hr
    refine Tr.region_f (fun _ => false) ?_
    refine W.q rfl rfl rfl rfl (by decide) (Yd.mv rfl (.t rfl)) ?_
    refine W.q rfl rfl rfl rfl (by decide) (Yd.mv rfl (.t rfl)) ?_
    refine W.q rfl rfl rfl rfl (by decide) (Yd.mv rfl (.t rfl)) ?_
    refine W.q rfl rfl rfl rfl (by decide) (Yd.idxR hu9 hy11 rfl Try.underlying23 SZ38 (.t rfl) (.t rfl)) ?_
    obtain ⟨u12, hu13, hat14⟩ := hu9.row hy11
    refine W.q rfl rfl rfl rfl (by decide) (Yd.ldRow hat14 (.refl _) rfl ON38 (.t rfl)) ?_
    refine W.q rfl rfl rfl rfl (by decide) (Yd.mv rfl (.t rfl)) ?_
    refine W.q rfl rfl rfl rfl (by decide) (Yd.idxR hu13 hy16 rfl Try.underlying38 SZ33 (.t rfl) (.t rfl)) ?_
    refine W.q rfl rfl rfl rfl (by decide) (Yd.ldF hu13 (.refl _) hy16 rfl rfl ON33 (.t rfl)) ?_
    refine W.q rfl rfl rfl rfl (by decide) (Yd.call (v := .bool r17) rfl Try.func19 rfl rfl (.cons (.t rfl) (.cons (.t rfl) .nil)) (fun x' hx w hw => syllogistref_In_ok w0 x'.m x'.l right_5 y15 _ hr18 w hw)) ?_
    refine W.q rfl rfl rfl rfl (by decide) (Yd.not rfl (.t rfl)) ?_
    refine W.end ?_
    refine NX.sub (env' := [(0, _), (1, _), (2, _), (3, _), (4, _), (5, _), (13, _), (14, _), (16, _), (60, _)]) ⟨rfl, rfl, rfl, rfl, rfl, rfl, rfl, rfl, rfl, rfl, trivial⟩ ?_
    refine NX.then ?_
    refine Tr.cond (.t rfl) (fun hb => ?_) (fun hb => ?_)
    · have hr := cond_t hb hr
      refine Tr.seq ?_
      refine Tr.region_f (fun _ => false) ?_
      refine W.q rfl rfl rfl rfl (by decide) (Yd.mv rfl (.t rfl)) ?_
      refine W.q rfl rfl rfl rfl (by decide) (Yd.eql rfl (.t rfl) .c) ?_
      refine W.q rfl rfl rfl rfl (by decide) (Yd.mv rfl (.t rfl)) ?_
      refine W.g rfl rfl rfl rfl rfl (.t rfl _) rfl (by decide) (fun hG => Yd.mv rfl (.t rfl)) ?_
      refine W.g rfl rfl rfl rfl rfl (.t rfl _) rfl (by decide) (fun hG => Yd.eql rfl (.g rfl hG) .c) ?_
      refine W.q rfl rfl rfl rfl (by decide) (Yd.and rfl (.t rfl) .c rfl rfl) ?_
      refine W.q rfl rfl rfl rfl (by decide) (Yd.as rfl (.t rfl)) ?_
      refine W.end ?_
      refine NX.sub (env' := [(12, _)]) ⟨rfl, trivial⟩ ?_
      refine NX.then ?_
      refine Tr.ret' (RT.then ?_)
      refine res1 rfl rfl ?_
      intro w hc
      cases hr
      exact ⟨rfl, (cX_le (x := ⟨m, _⟩) ⟨hsm8, [], rfl⟩ hc)⟩
    · have hr := cond_f hb hr
      refine Tr.skip' ?_
      refine NX.then ?_
      refine Tr.seq ?_
      refine Tr.region_f (fun _ => false) ?_
      refine W.q rfl rfl rfl rfl (by decide) (Yd.as rfl .c) ?_
      refine W.end ?_
      refine NX.sub (env' := [(0, _), (1, _), (2, _), (3, _), (4, _), (5, _), (13, _), (14, _), (16, _), (18, _)]) ⟨rfl, rfl, rfl, rfl, rfl, rfl, rfl, rfl, rfl, rfl, trivial⟩ ?_
      refine NX.then ?_
      refine Tr.seq ?_
      refine Tr.join (S := fun env x => ∃ want_29 : Int, ∃ m30 : Snap, Sle m8 m30 ∧ env = [(13, .int .i64 r1.1), (14, .int .i64 r1.2), (18, .int .i64 want_29)] ∧ x = ⟨m30, l⟩ ∧ syllogistlaw_RightsSteps_k31 r1 want_29 = some r) ?_ (fun hk32 => ?_)
      · rintro _ _ ⟨want_29, m30, hsm30, rfl, rfl, hr⟩
        unfold syllogistlaw_RightsSteps_k31 at hr
        try dsimp only at hr
        have hm_1 := hm_1.mono hsm30
        have hchains_2 := hchains_2.mono hsm30
        have hu9 := hu9.mono hsm30
        have hu13 := hu13.mono hsm30
        refine NX.then ?_
        refine Tr.seq ?_
        refine Tr.region_f (fun _ => false) ?_
        refine W.q rfl rfl rfl rfl (by decide) (Yd.mv rfl (.t rfl)) ?_
        refine W.q rfl rfl rfl rfl (by decide) (Yd.eql rfl (.t rfl) .c) ?_
        refine W.q rfl rfl rfl rfl (by decide) (Yd.mv rfl (.t rfl)) ?_
        refine W.g rfl rfl rfl rfl rfl (.t rfl _) rfl (by decide) (fun hG => Yd.mv rfl (.t rfl)) ?_
        refine W.g rfl rfl rfl rfl rfl (.t rfl _) rfl (by decide) (fun hG => Yd.mv rfl (.t rfl)) ?_
        refine W.g rfl rfl rfl rfl rfl (.t rfl _) rfl (by decide) (fun hG => Yd.eql rfl (.g rfl hG) (.g rfl hG)) ?_
        refine W.q rfl rfl rfl rfl (by decide) (Yd.and rfl (.t rfl) .c rfl rfl) ?_
        refine W.q rfl rfl rfl rfl (by decide) (Yd.as rfl (.t rfl)) ?_
        refine W.end ?_
        refine NX.sub (env' := [(12, _)]) ⟨rfl, trivial⟩ ?_
        refine NX.then ?_
        refine Tr.ret' ?_
        refine res1 rfl rfl ?_
        intro w hc
        cases hr
        exact ⟨rfl, (cX_le (x := ⟨m, _⟩) ⟨(hsm8.trans hsm30), [], rfl⟩ hc)⟩
      refine Tr.block ?_
      refine Tr.sub (env' := [(0, _), (1, _), (2, _), (3, _), (4, _), (5, _), (13, _), (14, _), (16, _), (18, _)]) ⟨rfl, rfl, rfl, rfl, rfl, rfl, rfl, rfl, rfl, rfl, trivial⟩ ?_
      refine Tr.loop (S := fun n (z : (List (List (BitVec 32))) × Int) env x => match z with | (m_24, want_27) => ∃ m28 : Snap, ∃ u25 : Value, Sle m8 m28 ∧ RS (Rp.slice rU) m28 u25 m_24 ∧ env = [(0, .int .i64 n_0), (1, u25), (2, uchains_2), (3, .int .i64 a_3), (4, .int .i64 b_4), (5, .int .u32 (right_5.toNat : Int)), (13, .int .i64 r1.1), (14, .int .i64 r1.2), (16, .int .i64 r5.1), (18, .int .i64 want_27)] ∧ x = ⟨m28, l⟩ ∧ whileK (σ := (List (List (BitVec 32))) × Int) (fun s nx_ => syllogistlaw_RightsSteps_b33 n_0 chains_2 a_3 b_4 right_5 r1 r5 s.1 s.2 nx_) n (m_24, want_27) = some r) _ (m_1, (0 : Int)) ⟨_, _, (.refl _), hm_1, rfl, rfl, hr⟩ ?_
      rintro n35 ⟨m_24, want_27⟩ env x ⟨m28, u25, hsm28, hu26, rfl, rfl, hr⟩
      have hm_1 := hm_1.mono hsm28
      have hchains_2 := hchains_2.mono hsm28
      have hu9 := hu9.mono hsm28
      have hu13 := hu13.mono hsm28
      cases n35 with
      | zero => simp [whileK] at hr
      | succ n35 =>
        obtain ⟨nx34, hnx34, hr⟩ := whileK_succ hr
        try dsimp only at hr
        unfold syllogistlaw_RightsSteps_b33 at hr
        try dsimp only at hr
        refine Tr.seq ?_
        refine Tr.seq ?_
        obtain ⟨ha36, hr⟩ := guard_some hr
        obtain ⟨ha40, hr⟩ := guard_some hr
        obtain ⟨ha41, hr⟩ := guard_some hr
        refine Tr.region_f (fun _ => false) ?_
        refine W.q rfl rfl rfl rfl (by decide) (Yd.mv rfl (.t rfl)) ?_
        refine W.q rfl rfl rfl rfl (by decide) (Yd.mv rfl (.t rfl)) ?_
        refine W.q rfl rfl rfl rfl (by decide) (Yd.lss rfl (.t rfl) (.t rfl)) ?_
        refine W.q rfl rfl rfl rfl (by decide) (Yd.mv rfl (.t rfl)) ?_
        refine W.g rfl rfl rfl rfl rfl (.t rfl _) rfl (by decide) (fun hG => Yd.mv rfl (.t rfl)) ?_
        refine W.g rfl rfl rfl rfl rfl (.t rfl _) rfl (by decide) (fun hG => Yd.mv rfl (.t rfl)) ?_
        refine W.g rfl rfl rfl rfl rfl (.t rfl _) rfl (by decide) (fun hG => Yd.mv rfl (.t rfl)) ?_
        refine W.g rfl rfl rfl rfl rfl (.t rfl _) rfl (by decide) (fun hG => Yd.idxR hu26 (gd_get (d := []) ha36 hG) rfl Try.underlying23 SZ38 (.g rfl hG) (.g rfl hG)) ?_
        obtain ⟨u37, hu38⟩ := RS.rowD hu26 (i := a_3)
        refine W.g rfl rfl rfl rfl rfl (.t rfl _) rfl (by decide) (fun hG => Yd.ldRow (hu38 _ (gd_get (d := []) ha36 hG)).2 (.refl _) rfl ON38 (.g rfl hG)) ?_
        refine W.g rfl rfl rfl rfl rfl (.t rfl _) rfl (by decide) (fun hG => Yd.mv rfl (.t rfl)) ?_
        refine W.g rfl rfl rfl rfl rfl (.t rfl _) rfl (by decide) (fun hG => Yd.idxR (hu38 _ (gd_get (d := []) ha36 hG)).1 (gd_get (d := (0#32)) ha40 hG) rfl Try.underlying38 SZ33 (.g rfl hG) (.g rfl hG)) ?_
        refine W.g rfl rfl rfl rfl rfl (.t rfl _) rfl (by decide) (fun hG => Yd.ldF (hu38 _ (gd_get (d := []) ha36 hG)).1 (.refl _) (gd_get (d := (0#32)) ha40 hG) rfl rfl ON33 (.g rfl hG)) ?_
        refine W.g rfl rfl rfl rfl rfl (.t rfl _) rfl (by decide) (fun hG => Yd.call (v := .bool ((((syllogistref_In right_5 (((geti (((geti m_24 a_3).getD [])) b_4).getD (0#32)))).getD false)))) rfl Try.func19 rfl rfl (.cons (.g rfl hG) (.cons (.g rfl hG) .nil)) (fun x' hx w hw => syllogistref_In_ok w0 x'.m x'.l right_5 (((geti (((geti m_24 a_3).getD [])) b_4).getD (0#32))) _ (gd_get (d := false) ha41 hG) w hw)) ?_
        refine W.g rfl rfl rfl rfl rfl (.t rfl _) rfl (by decide) (fun hG => Yd.not rfl (.g rfl hG)) ?_
        refine W.q rfl rfl rfl rfl (by decide) (Yd.and rfl (.t rfl) .c rfl rfl) ?_
        refine W.end ?_
        refine NX.sub (env' := [(0, _), (1, _), (2, _), (3, _), (4, _), (5, _), (13, _), (14, _), (16, _), (18, _), (81, _)]) ⟨rfl, rfl, rfl, rfl, rfl, rfl, rfl, rfl, rfl, rfl, rfl, trivial⟩ ?_
        refine NX.then ?_
        refine Tr.cond (.t rfl) (fun hb => ?_) (fun hb => ?_)
        · have hr := cond_t hb hr
          refine Tr.skip' ?_
          refine NX.then ?_
          refine Tr.seq ?_
          refine Tr.block ?_
          obtain ⟨r42, hr43, hr⟩ := bind_some hr
          refine Tr.region_f (fun i => Nat.beq i 3) ?_
          refine W.q rfl rfl rfl rfl (by decide) (Yd.mv rfl (.t rfl)) ?_
          refine W.q rfl rfl rfl rfl (by decide) (Yd.mv rfl (.t rfl)) ?_
          refine W.q rfl rfl rfl rfl (by decide) (Yd.mv rfl (.t rfl)) ?_
          refine W.e rfl rfl rfl rfl (by decide) (Ef.call (R := fun z x' => ∃ u44 : Value, ∃ m45 : Snap, z = u44 ∧ x' = ⟨m45, l⟩ ∧ Sle m28 m45 ∧ RS (Rp.slice rU) m45 u44 r42) rfl Try.func20 rfl rfl (.cons (.t rfl) (.cons (.t rfl) (.cons (.t rfl) .nil))) (fun w hw => (syllogistref_Round_ok w0 _ _ n_0 _ _ hu26 _ _ hchains_2 _ hr43 w hw).mono fun e w' ⟨u44, m45, he, hm', hu46, hc'⟩ => ⟨_, _, he, ⟨u44, m45, rfl, rfl, hm', hu46⟩, hc'⟩)) ?_
          rintro u44 _ ⟨_, m45, rfl, rfl, hsm45, hu46⟩
          have hm_1 := hm_1.mono hsm45
          have hchains_2 := hchains_2.mono hsm45
          have hu9 := hu9.mono hsm45
          have hu13 := hu13.mono hsm45
          have hu26 := hu26.mono hsm45
          refine ⟨.inl rfl, ?_⟩
          refine W.cast (m' := m45) (l' := l) rfl rfl ?_
          refine W.q rfl rfl rfl rfl (by decide) (Yd.as rfl (.t rfl)) ?_
          refine W.end ?_
          refine NX.sub (env' := [(0, _), (1, _), (2, _), (3, _), (4, _), (5, _), (13, _), (14, _), (16, _), (18, _)]) ⟨rfl, rfl, rfl, rfl, rfl, rfl, rfl, rfl, rfl, rfl, trivial⟩ ?_
          refine NX.block ?_
          refine NX.then ?_
          refine Tr.region_f (fun _ => false) ?_
          refine W.q rfl rfl rfl rfl (by decide) (Yd.mv rfl (.t rfl)) ?_
          refine W.q rfl rfl rfl rfl (by decide) (Yd.add rfl (.t rfl) .c) ?_
          refine W.q rfl rfl rfl rfl (by decide) (Yd.as rfl (.t rfl)) ?_
          refine W.end ?_
          refine NX.sub (env' := [(0, _), (1, _), (2, _), (3, _), (4, _), (5, _), (13, _), (14, _), (16, _), (18, _)]) ⟨rfl, rfl, rfl, rfl, rfl, rfl, rfl, rfl, rfl, rfl, trivial⟩ ?_
          refine NX.sub (env' := [(0, _), (1, _), (2, _), (3, _), (4, _), (5, _), (13, _), (14, _), (16, _), (18, _)]) ⟨rfl, rfl, rfl, rfl, rfl, rfl, rfl, rfl, rfl, rfl, trivial⟩ ?_
          exact NX.again n35 (r42, (w64 (want_27 + (1 : Int)))) (Nat.lt_succ_self _) ⟨_, _, (hsm28.trans hsm45), hu46, rfl, rfl, ((hnx34 _).symm.trans hr)⟩
        · have hr := cond_f hb hr
          refine Tr.exit' (EX.then (EX.then (EX.block ?_)))
          refine NX.sub (env' := [(13, _), (14, _), (18, _)]) ⟨rfl, rfl, rfl, trivial⟩ ?_
          exact hk32 _ _ ⟨_, _, hsm28, rfl, rfl, hr⟩

def rights_Safe (fuel : Nat) (n_0 : Int) (m_1 : List (List (BitVec 32))) (chains_2 : List Chain) (x_3 : Int) (y_4 : Int) (right_5 : (BitVec 32)) : Option (Bool × Int) :=
  (rights_Steps fuel n_0 m_1 chains_2 x_3 y_4 right_5).bind fun r1 =>
  (bif (r1.2 == (5 : Int)) then
  some ((true, (0 : Int)))
  else
  some ((false, r1.2)))

set_option maxRecDepth 100000 in
theorem rights_Safe_ok (w0 : World) (m : Snap) (l : List HI) (fuel : Nat) (n_0 : Int) (um_1 : Value) (m_1 : List (List (BitVec 32))) (hm_1 : RS (Rp.slice rU) m um_1 m_1) (uchains_2 : Value) (chains_2 : List Chain) (hchains_2 : RS rChain m uchains_2 chains_2) (x_3 : Int) (y_4 : Int) (right_5 : (BitVec 32)) (r : Bool × Int) (hr : rights_Safe fuel n_0 m_1 chains_2 x_3 y_4 right_5 = some r) (w : World) (hc : cX w0 ⟨m, l⟩ w) :
    Calls Try.prog 21 [.int .i64 n_0, um_1, uchains_2, .int .i64 x_3, .int .i64 y_4, .int .u32 (right_5.toNat : Int)].toArray w fun e w' => e = .returned (.tuple #[.bool r.1, .int .i64 r.2]) ∧ cX w0 ⟨m, l⟩ w' := by
  unfold rights_Safe at hr
  refine calls_of_Tr (N := 29) Try.func21 rfl hc rfl (Nat.le_of_ble_eq_true rfl) ?_
  refine Tr.seq ?_
  refine Tr.region_f (fun _ => false) ?_
  refine W.q rfl rfl rfl rfl (by decide) (Yd.as rfl .c) ?_
  refine W.q rfl rfl rfl rfl (by decide) (Yd.as rfl .c) ?_
  refine W.end ?_
  refine NX.sub (env' := [(0, _), (1, _), (2, _), (3, _), (4, _), (5, _)]) ⟨rfl, rfl, rfl, rfl, rfl, rfl, trivial⟩ ?_
  refine NX.then ?_
  refine Tr.seq ?_
  obtain ⟨r1, hr2, hr⟩ := bind_some hr
  refine Tr.region_f (fun _ => false) ?_
  refine W.q rfl rfl rfl rfl (by decide) (Yd.mv rfl (.t rfl)) ?_
  refine W.q rfl rfl rfl rfl (by decide) (Yd.mv rfl (.t rfl)) ?_
  refine W.q rfl rfl rfl rfl (by decide) (Yd.mv rfl (.t rfl)) ?_
  refine W.q rfl rfl rfl rfl (by decide) (Yd.mv rfl (.t rfl)) ?_
  refine W.q rfl rfl rfl rfl (by decide) (Yd.mv rfl (.t rfl)) ?_
  refine W.q rfl rfl rfl rfl (by decide) (Yd.mv rfl (.t rfl)) ?_
  refine W.q rfl rfl rfl rfl (by decide) (Yd.call (v := .tuple #[.int .i64 r1.1, .int .i64 r1.2]) rfl Try.func17 rfl rfl (.cons (.t rfl) (.cons (.t rfl) (.cons (.t rfl) (.cons (.t rfl) (.cons (.t rfl) (.cons (.t rfl) .nil)))))) (fun x' hx w hw => rights_Steps_ok w0 x'.m x'.l fuel n_0 _ _ (hm_1.mono hx.1) _ _ (hchains_2.mono hx.1) x_3 y_4 right_5 _ hr2 w hw)) ?_
  refine W.q rfl rfl rfl rfl (by decide) (Yd.mv rfl (.t rfl)) ?_
  refine W.q rfl rfl rfl rfl (by decide) (Yd.ext rfl (.t rfl) rfl) ?_
  refine W.q rfl rfl rfl rfl (by decide) (Yd.ext rfl (.t rfl) rfl) ?_
  refine W.q rfl rfl rfl rfl (by decide) (Yd.as rfl (.t rfl)) ?_
  refine W.q rfl rfl rfl rfl (by decide) (Yd.as rfl (.t rfl)) ?_
  refine W.end ?_
  refine NX.sub (env' := [(15, _)]) ⟨rfl, trivial⟩ ?_
  refine NX.then ?_
  refine Tr.seq ?_
  refine Tr.seq ?_
  refine Tr.region_f (fun _ => false) ?_
  refine W.q rfl rfl rfl rfl (by decide) (Yd.mv rfl (.t rfl)) ?_
  refine W.q rfl rfl rfl rfl (by decide) (Yd.eql rfl (.t rfl) .c) ?_
  refine W.end ?_
  refine NX.sub (env' := [(15, _), (27, _)]) ⟨rfl, rfl, trivial⟩ ?_
  refine NX.then ?_
  refine Tr.cond (.t rfl) (fun hb => ?_) (fun hb => ?_)
  · have hr := cond_t hb hr
    refine Tr.seq ?_
    refine Tr.region_f (fun _ => false) ?_
    refine W.q rfl rfl rfl rfl (by decide) (Yd.as rfl .c) ?_
    refine W.q rfl rfl rfl rfl (by decide) (Yd.as rfl .c) ?_
    refine W.end ?_
    refine NX.sub (env' := [(12, _), (13, _)]) ⟨rfl, rfl, trivial⟩ ?_
    refine NX.then ?_
    refine Tr.ret' (RT.then ?_)
    refine res2 rfl rfl rfl ?_
    intro w hc
    cases hr
    exact ⟨rfl, hc⟩
  · have hr := cond_f hb hr
    refine Tr.skip' ?_
    refine NX.then ?_
    refine Tr.seq ?_
    refine Tr.region_f (fun _ => false) ?_
    refine W.q rfl rfl rfl rfl (by decide) (Yd.mv rfl (.t rfl)) ?_
    refine W.q rfl rfl rfl rfl (by decide) (Yd.as rfl .c) ?_
    refine W.q rfl rfl rfl rfl (by decide) (Yd.as rfl (.t rfl)) ?_
    refine W.end ?_
    refine NX.sub (env' := [(12, _), (13, _)]) ⟨rfl, rfl, trivial⟩ ?_
    refine NX.then ?_
    refine Tr.ret' ?_
    refine res2 rfl rfl rfl ?_
    intro w hc
    cases hr
    exact ⟨rfl, hc⟩

def syllogistlaw_RightsSafes (fuel : Nat) (n_0 : Int) (m_1 : List (List (BitVec 32))) (chains_2 : List Chain) (a_3 : Int) (b_4 : Int) (right_5 : (BitVec 32)) : Option (Bool) :=
  (rights_Safe fuel n_0 m_1 chains_2 a_3 b_4 right_5).bind fun r1 =>
  (syllogistlaw_cellCode n_0 m_1 chains_2 a_3 b_4).bind fun r3 =>
  (bif (r3 != (0 : Int)) then
  some (((r1.2 == r3) && (!r1.1)))
  else
  (syllogistref_Rounds fuel n_0 m_1 chains_2).bind fun r5 =>
  bif (!((r1.2 == (0 : Int)) == true) || (geti r5.2 a_3).isSome) then
  bif (!((r1.2 == (0 : Int)) == true) || (geti (((geti r5.2 a_3).getD [])) b_4).isSome) then
  bif (!((r1.2 == (0 : Int)) == true) || (syllogistref_In right_5 (((geti (((geti r5.2 a_3).getD [])) b_4).getD (0#32)))).isSome) then
  some (((r1.2 == (0 : Int)) && (r1.1 == (!(((syllogistref_In right_5 (((geti (((geti r5.2 a_3).getD [])) b_4).getD (0#32)))).getD false)))))) else none else none else none)

set_option maxRecDepth 100000 in
theorem syllogistlaw_RightsSafes_ok (w0 : World) (m : Snap) (l : List HI) (fuel : Nat) (n_0 : Int) (um_1 : Value) (m_1 : List (List (BitVec 32))) (hm_1 : RS (Rp.slice rU) m um_1 m_1) (uchains_2 : Value) (chains_2 : List Chain) (hchains_2 : RS rChain m uchains_2 chains_2) (a_3 : Int) (b_4 : Int) (right_5 : (BitVec 32)) (r : Bool) (hr : syllogistlaw_RightsSafes fuel n_0 m_1 chains_2 a_3 b_4 right_5 = some r) (w : World) (hc : cX w0 ⟨m, l⟩ w) :
    Calls Try.prog 5 [.int .i64 n_0, um_1, uchains_2, .int .i64 a_3, .int .i64 b_4, .int .u32 (right_5.toNat : Int)].toArray w fun e w' => e = .returned (.bool r) ∧ cX w0 ⟨m, l⟩ w' := by
  unfold syllogistlaw_RightsSafes at hr
  refine calls_of_Tr (N := 66) Try.func5 rfl hc rfl (Nat.le_of_ble_eq_true rfl) ?_
  refine Tr.seq ?_
  refine Tr.region_f (fun _ => false) ?_
  refine W.q rfl rfl rfl rfl (by decide) (Yd.as rfl .c) ?_
  refine W.end ?_
  refine NX.sub (env' := [(0, _), (1, _), (2, _), (3, _), (4, _), (5, _)]) ⟨rfl, rfl, rfl, rfl, rfl, rfl, trivial⟩ ?_
  refine NX.then ?_
  refine Tr.seq ?_
  obtain ⟨r1, hr2, hr⟩ := bind_some hr
  refine Tr.region_f (fun _ => false) ?_
  refine W.q rfl rfl rfl rfl (by decide) (Yd.mv rfl (.t rfl)) ?_
  refine W.q rfl rfl rfl rfl (by decide) (Yd.mv rfl (.t rfl)) ?_
  refine W.q rfl rfl rfl rfl (by decide) (Yd.mv rfl (.t rfl)) ?_
  refine W.q rfl rfl rfl rfl (by decide) (Yd.mv rfl (.t rfl)) ?_
  refine W.q rfl rfl rfl rfl (by decide) (Yd.mv rfl (.t rfl)) ?_
  refine W.q rfl rfl rfl rfl (by decide) (Yd.mv rfl (.t rfl)) ?_
  refine W.q rfl rfl rfl rfl (by decide) (Yd.call (v := .tuple #[.bool r1.1, .int .i64 r1.2]) rfl Try.func21 rfl rfl (.cons (.t rfl) (.cons (.t rfl) (.cons (.t rfl) (.cons (.t rfl) (.cons (.t rfl) (.cons (.t rfl) .nil)))))) (fun x' hx w hw => rights_Safe_ok w0 x'.m x'.l fuel n_0 _ _ (hm_1.mono hx.1) _ _ (hchains_2.mono hx.1) a_3 b_4 right_5 _ hr2 w hw)) ?_
  refine W.q rfl rfl rfl rfl (by decide) (Yd.mv rfl (.t rfl)) ?_
  refine W.q rfl rfl rfl rfl (by decide) (Yd.ext rfl (.t rfl) rfl) ?_
  refine W.q rfl rfl rfl rfl (by decide) (Yd.ext rfl (.t rfl) rfl) ?_
  refine W.q rfl rfl rfl rfl (by decide) (Yd.as rfl (.t rfl)) ?_
  refine W.q rfl rfl rfl rfl (by decide) (Yd.as rfl (.t rfl)) ?_
  refine W.end ?_
  refine NX.sub (env' := [(0, _), (1, _), (2, _), (3, _), (4, _), (5, _), (13, _), (14, _)]) ⟨rfl, rfl, rfl, rfl, rfl, rfl, rfl, rfl, trivial⟩ ?_
  refine NX.then ?_
  refine Tr.seq ?_
  obtain ⟨r3, hr4, hr⟩ := bind_some hr
  refine Tr.region_f (fun _ => false) ?_
  refine W.q rfl rfl rfl rfl (by decide) (Yd.mv rfl (.t rfl)) ?_
  refine W.q rfl rfl rfl rfl (by decide) (Yd.mv rfl (.t rfl)) ?_
  refine W.q rfl rfl rfl rfl (by decide) (Yd.mv rfl (.t rfl)) ?_
  refine W.q rfl rfl rfl rfl (by decide) (Yd.mv rfl (.t rfl)) ?_
  refine W.q rfl rfl rfl rfl (by decide) (Yd.mv rfl (.t rfl)) ?_
  refine W.q rfl rfl rfl rfl (by decide) (Yd.call (v := .int .i64 r3) rfl Try.func18 rfl rfl (.cons (.t rfl) (.cons (.t rfl) (.cons (.t rfl) (.cons (.t rfl) (.cons (.t rfl) .nil))))) (fun x' hx w hw => syllogistlaw_cellCode_ok w0 x'.m x'.l n_0 _ _ (hm_1.mono hx.1) _ _ (hchains_2.mono hx.1) a_3 b_4 _ hr4 w hw)) ?_
  refine W.q rfl rfl rfl rfl (by decide) (Yd.as rfl (.t rfl)) ?_
  refine W.end ?_
  refine NX.sub (env' := [(0, _), (1, _), (2, _), (3, _), (4, _), (5, _), (13, _), (14, _), (15, _)]) ⟨rfl, rfl, rfl, rfl, rfl, rfl, rfl, rfl, rfl, trivial⟩ ?_
  refine NX.then ?_
  refine Tr.seq ?_
  refine Tr.seq ?_
  refine Tr.region_f (fun _ => false) ?_
  refine W.q rfl rfl rfl rfl (by decide) (Yd.mv rfl (.t rfl)) ?_
  refine W.q rfl rfl rfl rfl (by decide) (Yd.neq rfl (.t rfl) .c) ?_
  refine W.end ?_
  refine NX.sub (env' := [(0, _), (1, _), (2, _), (3, _), (4, _), (5, _), (13, _), (14, _), (15, _), (35, _)]) ⟨rfl, rfl, rfl, rfl, rfl, rfl, rfl, rfl, rfl, rfl, trivial⟩ ?_
  refine NX.then ?_
  refine Tr.cond (.t rfl) (fun hb => ?_) (fun hb => ?_)
  · have hr := cond_t hb hr
    refine Tr.seq ?_
    refine Tr.region_f (fun _ => false) ?_
    refine W.q rfl rfl rfl rfl (by decide) (Yd.mv rfl (.t rfl)) ?_
    refine W.q rfl rfl rfl rfl (by decide) (Yd.mv rfl (.t rfl)) ?_
    refine W.q rfl rfl rfl rfl (by decide) (Yd.eql rfl (.t rfl) (.t rfl)) ?_
    refine W.q rfl rfl rfl rfl (by decide) (Yd.mv rfl (.t rfl)) ?_
    refine W.g rfl rfl rfl rfl rfl (.t rfl _) rfl (by decide) (fun hG => Yd.mv rfl (.t rfl)) ?_
    refine W.g rfl rfl rfl rfl rfl (.t rfl _) rfl (by decide) (fun hG => Yd.not rfl (.g rfl hG)) ?_
    refine W.q rfl rfl rfl rfl (by decide) (Yd.and rfl (.t rfl) .c rfl rfl) ?_
    refine W.q rfl rfl rfl rfl (by decide) (Yd.as rfl (.t rfl)) ?_
    refine W.end ?_
    refine NX.sub (env' := [(12, _)]) ⟨rfl, trivial⟩ ?_
    refine NX.then ?_
    refine Tr.ret' (RT.then ?_)
    refine res1 rfl rfl ?_
    intro w hc
    cases hr
    exact ⟨rfl, hc⟩
  · have hr := cond_f hb hr
    refine Tr.skip' ?_
    refine NX.then ?_
    refine Tr.seq ?_
    obtain ⟨r5, hr6, hr⟩ := bind_some hr
    refine Tr.region_f (fun i => Nat.beq i 3) ?_
    refine W.q rfl rfl rfl rfl (by decide) (Yd.mv rfl (.t rfl)) ?_
    refine W.q rfl rfl rfl rfl (by decide) (Yd.mv rfl (.t rfl)) ?_
    refine W.q rfl rfl rfl rfl (by decide) (Yd.mv rfl (.t rfl)) ?_
    refine W.e rfl rfl rfl rfl (by decide) (Ef.call (R := fun z x' => ∃ u7 : Value, ∃ m8 : Snap, z = .tuple #[.int .i64 r5.1, u7] ∧ x' = ⟨m8, l⟩ ∧ Sle m m8 ∧ RS (Rp.slice rU) m8 u7 r5.2) rfl Try.func15 rfl rfl (.cons (.t rfl) (.cons (.t rfl) (.cons (.t rfl) .nil))) (fun w hw => (syllogistref_Rounds_ok w0 _ _ fuel n_0 _ _ hm_1 _ _ hchains_2 _ hr6 w hw).mono fun e w' ⟨u7, m8, he, hm', hu9, hc'⟩ => ⟨_, _, he, ⟨u7, m8, rfl, rfl, hm', hu9⟩, hc'⟩)) ?_
    rintro _ _ ⟨u7, m8, rfl, rfl, hsm8, hu9⟩
    have hm_1 := hm_1.mono hsm8
    have hchains_2 := hchains_2.mono hsm8
    refine ⟨.inl rfl, ?_⟩
    refine W.cast (m' := m8) (l' := l) rfl rfl ?_
    refine W.q rfl rfl rfl rfl (by decide) (Yd.mv rfl (.t rfl)) ?_
    refine W.q rfl rfl rfl rfl (by decide) (Yd.ext rfl (.t rfl) rfl) ?_
    refine W.q rfl rfl rfl rfl (by decide) (Yd.ext rfl (.t rfl) rfl) ?_
    refine W.q rfl rfl rfl rfl (by decide) (Yd.as rfl (.t rfl)) ?_
    refine W.q rfl rfl rfl rfl (by decide) (Yd.as rfl (.t rfl)) ?_
    refine W.end ?_
    refine NX.sub (env' := [(3, _), (4, _), (5, _), (13, _), (14, _), (17, _)]) ⟨rfl, rfl, rfl, rfl, rfl, rfl, trivial⟩ ?_
    refine NX.then ?_
    refine Tr.seq ?_
    obtain ⟨ha10, hr⟩ := guard_some hr
    obtain ⟨ha14, hr⟩ := guard_some hr
    obtain ⟨ha15, hr⟩ := guard_some hr
    refine Tr.region_f (fun _ => false) ?_
    refine W.q rfl rfl rfl rfl (by decide) (Yd.mv rfl (.t rfl)) ?_
    refine W.q rfl rfl rfl rfl (by decide) (Yd.eql rfl (.t rfl) .c) ?_
    refine W.q rfl rfl rfl rfl (by decide) (Yd.mv rfl (.t rfl)) ?_
    refine W.g rfl rfl rfl rfl rfl (.t rfl _) rfl (by decide) (fun hG => Yd.mv rfl (.t rfl)) ?_
    refine W.g rfl rfl rfl rfl rfl (.t rfl _) rfl (by decide) (fun hG => Yd.mv rfl (.t rfl)) ?_
    refine W.g rfl rfl rfl rfl rfl (.t rfl _) rfl (by decide) (fun hG => Yd.mv rfl (.t rfl)) ?_
    refine W.g rfl rfl rfl rfl rfl (.t rfl _) rfl (by decide) (fun hG => Yd.mv rfl (.t rfl)) ?_
    refine W.g rfl rfl rfl rfl rfl (.t rfl _) rfl (by decide) (fun hG => Yd.idxR hu9 (gd_get (d := []) ha10 hG) rfl Try.underlying23 SZ38 (.g rfl hG) (.g rfl hG)) ?_
    obtain ⟨u11, hu12⟩ := RS.rowD hu9 (i := a_3)
    refine W.g rfl rfl rfl rfl rfl (.t rfl _) rfl (by decide) (fun hG => Yd.ldRow (hu12 _ (gd_get (d := []) ha10 hG)).2 (.refl _) rfl ON38 (.g rfl hG)) ?_
    refine W.g rfl rfl rfl rfl rfl (.t rfl _) rfl (by decide) (fun hG => Yd.mv rfl (.t rfl)) ?_
    refine W.g rfl rfl rfl rfl rfl (.t rfl _) rfl (by decide) (fun hG => Yd.idxR (hu12 _ (gd_get (d := []) ha10 hG)).1 (gd_get (d := (0#32)) ha14 hG) rfl Try.underlying38 SZ33 (.g rfl hG) (.g rfl hG)) ?_
    refine W.g rfl rfl rfl rfl rfl (.t rfl _) rfl (by decide) (fun hG => Yd.ldF (hu12 _ (gd_get (d := []) ha10 hG)).1 (.refl _) (gd_get (d := (0#32)) ha14 hG) rfl rfl ON33 (.g rfl hG)) ?_
    refine W.g rfl rfl rfl rfl rfl (.t rfl _) rfl (by decide) (fun hG => Yd.call (v := .bool ((((syllogistref_In right_5 (((geti (((geti r5.2 a_3).getD [])) b_4).getD (0#32)))).getD false)))) rfl Try.func19 rfl rfl (.cons (.g rfl hG) (.cons (.g rfl hG) .nil)) (fun x' hx w hw => syllogistref_In_ok w0 x'.m x'.l right_5 (((geti (((geti r5.2 a_3).getD [])) b_4).getD (0#32))) _ (gd_get (d := false) ha15 hG) w hw)) ?_
    refine W.g rfl rfl rfl rfl rfl (.t rfl _) rfl (by decide) (fun hG => Yd.not rfl (.g rfl hG)) ?_
    refine W.g rfl rfl rfl rfl rfl (.t rfl _) rfl (by decide) (fun hG => Yd.eqlB Try.underlying4 rfl (.g rfl hG) (.g rfl hG)) ?_
    refine W.q rfl rfl rfl rfl (by decide) (Yd.and rfl (.t rfl) .c rfl rfl) ?_
    refine W.q rfl rfl rfl rfl (by decide) (Yd.as rfl (.t rfl)) ?_
    refine W.end ?_
    refine NX.sub (env' := [(12, _)]) ⟨rfl, trivial⟩ ?_
    refine NX.then ?_
    refine Tr.ret' ?_
    refine res1 rfl rfl ?_
    intro w hc
    cases hr
    exact ⟨rfl, (cX_le (x := ⟨m, _⟩) ⟨hsm8, [], rfl⟩ hc)⟩
end Go.Proofs.Ytehfjfaanhdbaaa.Sy
