/- Functions of the program as plain functions, and that the translation computes them; the conditions stand in each theorem. Printed by an own program. -/
import Derived.Test.YtbbenieabpmghaaG5a
import Derived.Test.YtbbenieabpmghaaProg
namespace Go.Proofs.Ytbbenieabpmghaa.Sy
open Go
set_option linter.unusedVariables false
def syllogistref_Sees_k5 : Option (Bool) :=
  some true

def syllogistref_Sees_b9 (m_0 : Machine) (hidden_1 : (BitVec 32)) (s_2 : Int) (t_3 : Int) (u_8 : Int) (nx10 : Unit → Option (Bool)) : Option (Bool) :=
  (syllogistref_Bit hidden_1 u_8).bind fun r12 =>
  bif (!((!r12) == true) || (geti m_0.sees s_2).isSome) then
  bif (!((!r12) == true) || (geti (((geti m_0.sees s_2).getD [])) u_8).isSome) then
  bif (!((!r12) == true) || (geti m_0.sees t_3).isSome) then
  bif (!((!r12) == true) || (geti (((geti m_0.sees t_3).getD [])) u_8).isSome) then
  (bif ((!r12) && (((geti (((geti m_0.sees s_2).getD [])) u_8).getD (0 : Int)) != ((geti (((geti m_0.sees t_3).getD [])) u_8).getD (0 : Int)))) then
  some false
  else
  nx10 ()) else none else none else none else none

def syllogistref_Sees (m_0 : Machine) (hidden_1 : (BitVec 32)) (s_2 : Int) (t_3 : Int) : Option (Bool) :=
  bif decide (m_0.users ≤ 9223372036854775807) then
  forK (σ := Unit) (fun i s nx_ => syllogistref_Sees_b9 m_0 hidden_1 s_2 t_3 i nx_) (fun _ => syllogistref_Sees_k5) (m_0.users - (0 : Int)).toNat (0 : Int) () else none

set_option maxRecDepth 100000 in
set_option maxHeartbeats 4000000 in
theorem syllogistref_Sees_ok (w0 : World) (m : Snap) (l : List HI) (m_0 : Machine) (um_0_3 : Value) (hm_0_3 : RS (Rp.slice (Rp.slice rI)) m um_0_3 m_0.next) (um_0_4 : Value) (hm_0_4 : RS (Rp.slice rI) m um_0_4 m_0.sees) (hidden_1 : (BitVec 32)) (s_2 : Int) (t_3 : Int) (r : Bool) (hr : syllogistref_Sees m_0 hidden_1 s_2 t_3 = some r) (w : World) (hc : cX w0 ⟨m, l⟩ w) :
    Calls Try.prog 16 [.agg #[.int .i64 m_0.n, .int .i64 m_0.users, .int .i64 m_0.acts, um_0_3, um_0_4], .int .u32 (hidden_1.toNat : Int), .int .i64 s_2, .int .i64 t_3].toArray w fun e w' => e = .returned (.bool r) ∧ cX w0 ⟨m, l⟩ w' := by
  unfold syllogistref_Sees at hr
  refine calls_of_Tr (N := 39) Try.func16 rfl hc rfl (Nat.le_of_ble_eq_true rfl) ?_
  refine Tr.seq ?_
  refine Tr.region_f (fun i => Nat.beq i 0) ?_
  refine W.e rfl rfl rfl rfl (by decide) (Ef.bx rfl (.t rfl) rfl) ?_
  rintro _ _ ⟨b1, rfl, rfl⟩
  refine ⟨.inl rfl, ?_⟩
  refine W.cast (m' := m) (l' := hcells b1 [_, _, _, _, _] 25 :: l) rfl rfl ?_
  refine W.q rfl rfl rfl rfl (by decide) (Yd.as rfl .c) ?_
  refine W.end ?_
  refine NX.sub (env' := [(1, _), (2, _), (3, _), (4, _)]) ⟨rfl, rfl, rfl, rfl, trivial⟩ ?_
  refine NX.then ?_
  refine Tr.seq ?_
  refine Tr.seq ?_
  refine Tr.region_f (fun _ => false) ?_
  refine W.q rfl rfl rfl rfl (by decide) (Yd.as rfl .c) ?_
  refine W.end ?_
  refine NX.sub (env' := [(1, _), (2, _), (3, _), (4, _), (9, _)]) ⟨rfl, rfl, rfl, rfl, rfl, trivial⟩ ?_
  refine NX.then ?_
  refine Tr.join (S := fun env x => env = [] ∧ x = ⟨m, l⟩ ∧ syllogistref_Sees_k5 = some r) ?_ (fun hk6 => ?_)
  · rintro _ _ ⟨rfl, rfl, hr⟩
    unfold syllogistref_Sees_k5 at hr
    try dsimp only at hr
    refine NX.then ?_
    refine Tr.seq ?_
    refine Tr.region_f (fun _ => false) ?_
    refine W.q rfl rfl rfl rfl (by decide) (Yd.as rfl .c) ?_
    refine W.end ?_
    refine NX.sub (env' := [(8, _)]) ⟨rfl, trivial⟩ ?_
    refine NX.then ?_
    refine Tr.ret' ?_
    refine res1 rfl rfl ?_
    intro w hc
    cases hr
    exact ⟨rfl, hc⟩
  obtain ⟨hle7, hr⟩ := guard_some hr; replace hle7 := of_decide_eq_true hle7
  refine Tr.block ?_
  refine Tr.sub (env' := [(1, _), (2, _), (3, _), (4, _), (9, _)]) ⟨rfl, rfl, rfl, rfl, rfl, trivial⟩ ?_
  refine Tr.loop (S := fun n (z : Int × Unit) env x => match z with | (u_8, _) => env = [(1, .int .u32 (hidden_1.toNat : Int)), (2, .int .i64 s_2), (3, .int .i64 t_3), (4, bp b1 0), (9, .int .i64 u_8)] ∧ x = ⟨m, hcells b1 [.int .i64 m_0.n, .int .i64 m_0.users, .int .i64 m_0.acts, um_0_3, um_0_4] 25 :: l⟩ ∧ n = (m_0.users - u_8).toNat ∧ 0 ≤ u_8 ∧ forK (σ := Unit) (fun i s nx_ => syllogistref_Sees_b9 m_0 hidden_1 s_2 t_3 i nx_) (fun _ => syllogistref_Sees_k5) n u_8 () = some r) _ ((0 : Int), ()) ⟨rfl, rfl, rfl, (by omega), hr⟩ ?_
  rintro n11 ⟨u_8, _⟩ env x ⟨rfl, rfl, hnu_8, h0u_8, hr⟩
  cases n11 with
  | zero =>
    simp only [forK] at hr
    refine Tr.seq ?_
    refine Tr.seq ?_
    refine Tr.region_f (fun _ => false) ?_
    refine W.q rfl rfl rfl rfl (by decide) (Yd.mv rfl (.t rfl)) ?_
    refine W.q rfl rfl rfl rfl (by decide) (Yd.fldB rfl Try.underlying25 rfl SZ3 rfl (.t rfl)) ?_
    refine W.q rfl rfl rfl rfl (by decide) (Yd.ldB (pos := 0) rfl rfl rfl ON3 (.t rfl)) ?_
    refine W.q rfl rfl rfl rfl (by decide) (Yd.lss rfl (.t rfl) (.t rfl)) ?_
    refine W.end ?_
    refine NX.sub (env' := [(1, _), (2, _), (3, _), (4, _), (9, _), (13, _)]) ⟨rfl, rfl, rfl, rfl, rfl, rfl, trivial⟩ ?_
    refine NX.then ?_
    refine Tr.cond (.t rfl) (fun hb => ?_) (fun hb => ?_)
    · exact absurd (hb.symm.trans (fr_end hnu_8)) (by decide)
    ·
      refine Tr.exit' (EX.then (EX.then (EX.block ?_)))
      refine NX.sub (env' := []) trivial ?_
      refine NX.drop (l' := l) (.cons _ (.refl _)) ?_
      exact hk6 _ _ ⟨rfl, rfl, hr⟩
  | succ n11 =>
    obtain ⟨nx10, hnx10, hr⟩ := forK_succ hr
    try dsimp only at hr
    unfold syllogistref_Sees_b9 at hr
    try dsimp only at hr
    have hltu_8 := fr_bnd hnu_8
    refine Tr.seq ?_
    refine Tr.seq ?_
    refine Tr.region_f (fun _ => false) ?_
    refine W.q rfl rfl rfl rfl (by decide) (Yd.mv rfl (.t rfl)) ?_
    refine W.q rfl rfl rfl rfl (by decide) (Yd.fldB rfl Try.underlying25 rfl SZ3 rfl (.t rfl)) ?_
    refine W.q rfl rfl rfl rfl (by decide) (Yd.ldB (pos := 0) rfl rfl rfl ON3 (.t rfl)) ?_
    refine W.q rfl rfl rfl rfl (by decide) (Yd.lss rfl (.t rfl) (.t rfl)) ?_
    refine W.end ?_
    refine NX.sub (env' := [(1, _), (2, _), (3, _), (4, _), (9, _), (13, _)]) ⟨rfl, rfl, rfl, rfl, rfl, rfl, trivial⟩ ?_
    refine NX.then ?_
    refine Tr.cond (.t rfl) (fun hb => ?_) (fun hb => ?_)
    rotate_left
    · exact absurd (hb.symm.trans (fr_go hnu_8)) (by decide)
    ·
      refine Tr.skip' ?_
      refine NX.then ?_
      refine Tr.seq ?_
      refine Tr.block ?_
      refine Tr.seq ?_
      obtain ⟨r12, hr13, hr⟩ := bind_some hr
      obtain ⟨ha14, hr⟩ := guard_some hr
      obtain ⟨ha18, hr⟩ := guard_some hr
      obtain ⟨ha19, hr⟩ := guard_some hr
      obtain ⟨ha23, hr⟩ := guard_some hr
      refine Tr.region_x (fun _ => false) (fun _ => false) (Ord.of [0, 1, 2, 3, 4, 5, 6, 7, 8, 9, 10, 11, 12, 13, 14, 15, 16, 17, 18, 19, 20, 21, 22]) FM (by kernel_rfl) ?_
      refine W.q rfl rfl rfl rfl (by decide) (Yd.mv rfl (.t rfl)) ?_
      refine W.q rfl rfl rfl rfl (by decide) (Yd.mv rfl (.t rfl)) ?_
      refine W.q rfl rfl rfl rfl (by decide) (Yd.call (v := .bool r12) rfl Try.func17 rfl rfl (.cons (.t rfl) (.cons (.t rfl) .nil)) (fun x' hx w hw => syllogistref_Bit_ok w0 x'.m x'.l hidden_1 u_8 _ hr13 w hw)) ?_
      refine W.q rfl rfl rfl rfl (by decide) (Yd.not rfl (.t rfl)) ?_
      refine W.q rfl rfl rfl rfl (by decide) (Yd.mv rfl (.t rfl)) ?_
      refine W.g rfl rfl rfl rfl rfl (.t rfl _) rfl (by decide) (fun hG => Yd.fldB rfl Try.underlying25 rfl SZ23 rfl (.t rfl)) ?_
      refine W.g rfl rfl rfl rfl rfl (.t rfl _) rfl (by decide) (fun hG => Yd.ldB (pos := 0) rfl rfl rfl ON23 (.g rfl hG)) ?_
      refine W.g rfl rfl rfl rfl rfl (.t rfl _) rfl (by decide) (fun hG => Yd.mv rfl (.t rfl)) ?_
      refine W.g rfl rfl rfl rfl rfl (.t rfl _) rfl (by decide) (fun hG => Yd.idxR hm_0_4 (gd_get (d := []) ha14 hG) rfl Try.underlying23 SZ40 (.g rfl hG) (.g rfl hG)) ?_
      obtain ⟨u15, hu16⟩ := RS.rowD hm_0_4 (i := s_2)
      refine W.g rfl rfl rfl rfl rfl (.t rfl _) rfl (by decide) (fun hG => Yd.ldRow (hu16 _ (gd_get (d := []) ha14 hG)).2 (.refl _) rfl ON40 (.g rfl hG)) ?_
      refine W.g rfl rfl rfl rfl rfl (.t rfl _) rfl (by decide) (fun hG => Yd.mv rfl (.t rfl)) ?_
      refine W.g rfl rfl rfl rfl rfl (.t rfl _) rfl (by decide) (fun hG => Yd.idxR (hu16 _ (gd_get (d := []) ha14 hG)).1 (gd_get (d := (0 : Int)) ha18 hG) rfl Try.underlying40 SZ3 (.g rfl hG) (.g rfl hG)) ?_
      refine W.g rfl rfl rfl rfl rfl (.t rfl _) rfl (by decide) (fun hG => Yd.ldF (hu16 _ (gd_get (d := []) ha14 hG)).1 (.refl _) (gd_get (d := (0 : Int)) ha18 hG) rfl rfl ON3 (.g rfl hG)) ?_
      refine W.g rfl rfl rfl rfl rfl (.t rfl _) rfl (by decide) (fun hG => Yd.fldB rfl Try.underlying25 rfl SZ23 rfl (.t rfl)) ?_
      refine W.g rfl rfl rfl rfl rfl (.t rfl _) rfl (by decide) (fun hG => Yd.ldB (pos := 0) rfl rfl rfl ON23 (.g rfl hG)) ?_
      refine W.g rfl rfl rfl rfl rfl (.t rfl _) rfl (by decide) (fun hG => Yd.mv rfl (.t rfl)) ?_
      refine W.g rfl rfl rfl rfl rfl (.t rfl _) rfl (by decide) (fun hG => Yd.idxR hm_0_4 (gd_get (d := []) ha19 hG) rfl Try.underlying23 SZ40 (.g rfl hG) (.g rfl hG)) ?_
      obtain ⟨u20, hu21⟩ := RS.rowD hm_0_4 (i := t_3)
      refine W.g rfl rfl rfl rfl rfl (.t rfl _) rfl (by decide) (fun hG => Yd.ldRow (hu21 _ (gd_get (d := []) ha19 hG)).2 (.refl _) rfl ON40 (.g rfl hG)) ?_
      refine W.g rfl rfl rfl rfl rfl (.t rfl _) rfl (by decide) (fun hG => Yd.mv rfl (.t rfl)) ?_
      refine W.g rfl rfl rfl rfl rfl (.t rfl _) rfl (by decide) (fun hG => Yd.idxR (hu21 _ (gd_get (d := []) ha19 hG)).1 (gd_get (d := (0 : Int)) ha23 hG) rfl Try.underlying40 SZ3 (.g rfl hG) (.g rfl hG)) ?_
      refine W.g rfl rfl rfl rfl rfl (.t rfl _) rfl (by decide) (fun hG => Yd.ldF (hu21 _ (gd_get (d := []) ha19 hG)).1 (.refl _) (gd_get (d := (0 : Int)) ha23 hG) rfl rfl ON3 (.g rfl hG)) ?_
      refine W.g rfl rfl rfl rfl rfl (.t rfl _) rfl (by decide) (fun hG => Yd.neq rfl (.g rfl hG) (.g rfl hG)) ?_
      refine W.q rfl rfl rfl rfl (by decide) (Yd.and rfl (.t rfl) .c rfl rfl) ?_
      refine W.end ?_
      refine NX.sub (env' := [(1, _), (2, _), (3, _), (4, _), (9, _), (38, _)]) ⟨rfl, rfl, rfl, rfl, rfl, rfl, trivial⟩ ?_
      refine NX.then ?_
      refine Tr.cond (.t rfl) (fun hb => ?_) (fun hb => ?_)
      · have hr := cond_t hb hr
        refine Tr.seq ?_
        refine Tr.region_f (fun _ => false) ?_
        refine W.q rfl rfl rfl rfl (by decide) (Yd.as rfl .c) ?_
        refine W.end ?_
        refine NX.sub (env' := [(8, _)]) ⟨rfl, trivial⟩ ?_
        refine NX.drop (l' := l) (.cons _ (.refl _)) ?_
        refine NX.then ?_
        refine Tr.ret' (RT.block (RT.then (RT.then (RT.block (RT.then ?_)))))
        refine res1 rfl rfl ?_
        intro w hc
        cases hr
        exact ⟨rfl, hc⟩
      · have hr := cond_f hb hr
        refine Tr.skip' ?_
        refine NX.block ?_
        refine NX.then ?_
        refine Tr.region_f (fun _ => false) ?_
        refine W.q rfl rfl rfl rfl (by decide) (Yd.mv rfl (.t rfl)) ?_
        refine W.q rfl rfl rfl rfl (by decide) (Yd.add rfl (.t rfl) .c) ?_
        refine W.q rfl rfl rfl rfl (by decide) (Yd.as rfl (.t rfl)) ?_
        refine W.end ?_
        refine NX.sub (env' := [(1, _), (2, _), (3, _), (4, _), (9, _)]) ⟨rfl, rfl, rfl, rfl, rfl, trivial⟩ ?_
        refine NX.sub (env' := [(1, _), (2, _), (3, _), (4, _), (9, _)]) ⟨rfl, rfl, rfl, rfl, rfl, trivial⟩ ?_
        have hw := w64_id (n := u_8 + 1) (by omega) (by omega)
        exact NX.again n11 (u_8 + 1, ()) (Nat.lt_succ_self _) ⟨(by rw [hw] <;> rfl), rfl, (fr_dec hnu_8), (by omega), ((hnx10 _).symm.trans hr)⟩

def syllogistref_LeakIn_k48 (t_44 : List (List Int)) : Option ((List (List Int))) :=
  some t_44

def syllogistref_LeakIn_k70 (k_42 : Int) (nx51 : (((List (List Int)) × Int) → Option ((List (List Int))))) (l66 : List (List Int)) : Option ((List (List Int))) :=
  nx51 (l66, (w64 (k_42 + (1 : Int))))

def syllogistref_LeakIn_k104 (nx77 : ((List (List Int)) → Option ((List (List Int))))) (l100 : List (List Int)) : Option ((List (List Int))) :=
  nx77 l100

def syllogistref_LeakIn_k125 (nx109 : ((List (List Int)) → Option ((List (List Int))))) (l121 : List (List Int)) : Option ((List (List Int))) :=
  nx109 l121

def syllogistref_LeakIn_k146 (nx130 : ((List (List Int)) → Option ((List (List Int))))) (l142 : List (List Int)) : Option ((List (List Int))) :=
  nx130 l142

def syllogistref_LeakIn_k156 (m_0 : Machine) (t_39 : List (List Int)) (k_42 : Int) (s_75 : Int) (p_107 : Int) (u_128 : Int) (a_149 : Int) (l138 : List (List Int)) (nx151 : ((List (List Int)) → Option ((List (List Int))))) (q_155 : Int) : Option ((List (List Int))) :=
  (geti l138 s_75).bind fun y158 =>
  (geti y158 p_107).bind fun y162 =>
  bif (!((decide (y162 < (0 : Int))) == true) || (geti m_0.next s_75).isSome) then
  bif (!((decide (y162 < (0 : Int))) == true) || (geti (((geti m_0.next s_75).getD [])) u_128).isSome) then
  bif (!((decide (y162 < (0 : Int))) == true) || (geti (((geti (((geti m_0.next s_75).getD [])) u_128).getD [])) a_149).isSome) then
  bif (!((decide (y162 < (0 : Int))) == true) || (geti t_39 (((geti (((geti (((geti m_0.next s_75).getD [])) u_128).getD [])) a_149).getD (0 : Int)))).isSome) then
  bif (!((decide (y162 < (0 : Int))) == true) || (geti (((geti t_39 (((geti (((geti (((geti m_0.next s_75).getD [])) u_128).getD [])) a_149).getD (0 : Int)))).getD [])) q_155).isSome) then
  (bif ((decide (y162 < (0 : Int))) && (decide (((geti (((geti t_39 (((geti (((geti (((geti m_0.next s_75).getD [])) u_128).getD [])) a_149).getD (0 : Int)))).getD [])) q_155).getD (0 : Int)) ≥ (0 : Int)))) then
  (geti l138 s_75).bind fun y178 =>
  (geti y178 p_107).bind fun y182 =>
  nx151 (l138.set s_75.toNat (y178.set p_107.toNat k_42))
  else
  nx151 l138) else none else none else none else none else none

def syllogistref_LeakIn_b150 (m_0 : Machine) (hidden_1 : (BitVec 32)) (t_39 : List (List Int)) (k_42 : Int) (s_75 : Int) (p_107 : Int) (u_128 : Int) (a_149 : Int) (l138 : List (List Int)) (nx151 : (List (List Int)) → Option ((List (List Int)))) : Option ((List (List Int))) :=
  (syllogistref_Bit hidden_1 u_128).bind fun r153 =>
  (bif (!r153) then
  (geti m_0.next p_107).bind fun y184 =>
  (geti y184 u_128).bind fun y189 =>
  (geti y189 a_149).bind fun y194 =>
  syllogistref_LeakIn_k156 m_0 t_39 k_42 s_75 p_107 u_128 a_149 l138 nx151 y194
  else
  syllogistref_LeakIn_k156 m_0 t_39 k_42 s_75 p_107 u_128 a_149 l138 nx151 p_107)

def syllogistref_LeakIn_b129 (m_0 : Machine) (hidden_1 : (BitVec 32)) (t_39 : List (List Int)) (k_42 : Int) (s_75 : Int) (p_107 : Int) (u_128 : Int) (l117 : List (List Int)) (nx130 : (List (List Int)) → Option ((List (List Int)))) : Option ((List (List Int))) :=
  bif decide (m_0.acts ≤ 9223372036854775807) then
  forK (σ := (List (List Int))) (fun i s nx_ => syllogistref_LeakIn_b150 m_0 hidden_1 t_39 k_42 s_75 p_107 u_128 i s nx_) (fun s => syllogistref_LeakIn_k146 nx130 s) (m_0.acts - (0 : Int)).toNat (0 : Int) l117 else none

def syllogistref_LeakIn_b108 (m_0 : Machine) (hidden_1 : (BitVec 32)) (t_39 : List (List Int)) (k_42 : Int) (s_75 : Int) (p_107 : Int) (l96 : List (List Int)) (nx109 : (List (List Int)) → Option ((List (List Int)))) : Option ((List (List Int))) :=
  bif decide (m_0.users ≤ 9223372036854775807) then
  forK (σ := (List (List Int))) (fun i s nx_ => syllogistref_LeakIn_b129 m_0 hidden_1 t_39 k_42 s_75 p_107 i s nx_) (fun s => syllogistref_LeakIn_k125 nx109 s) (m_0.users - (0 : Int)).toNat (0 : Int) l96 else none

def syllogistref_LeakIn_b76 (m_0 : Machine) (hidden_1 : (BitVec 32)) (t_39 : List (List Int)) (k_42 : Int) (s_75 : Int) (l62 : List (List Int)) (nx77 : (List (List Int)) → Option ((List (List Int)))) : Option ((List (List Int))) :=
  (geti t_39 s_75).bind fun y81 =>
  bif decide ((([] : List Int)).length + y81.length ≤ 17592186044416) then
  (geti l62 s_75).bind fun y88 =>
  bif decide (m_0.n ≤ 9223372036854775807) then
  forK (σ := (List (List Int))) (fun i s nx_ => syllogistref_LeakIn_b108 m_0 hidden_1 t_39 k_42 s_75 i s nx_) (fun s => syllogistref_LeakIn_k104 nx77 s) (m_0.n - (0 : Int)).toNat (0 : Int) ((l62.set s_75.toNat ((([] : List Int) ++ y81)))) else none else none

def syllogistref_LeakIn_b50 (m_0 : Machine) (hidden_1 : (BitVec 32)) (n_2 : Int) (t_39 : List (List Int)) (k_42 : Int) (nx51 : ((List (List Int)) × Int) → Option ((List (List Int)))) : Option ((List (List Int))) :=
  (bif (decide (k_42 ≤ n_2)) then
  bif decide (0 ≤ m_0.n ∧ m_0.n ≤ 1048576) then
  bif decide (m_0.n ≤ 9223372036854775807) then
  forK (σ := (List (List Int))) (fun i s nx_ => syllogistref_LeakIn_b76 m_0 hidden_1 t_39 k_42 i s nx_) (fun s => syllogistref_LeakIn_k70 k_42 nx51 s) (m_0.n - (0 : Int)).toNat (0 : Int) ((List.replicate m_0.n.toNat ([] : List Int))) else none else none
  else
  syllogistref_LeakIn_k48 t_39)

def syllogistref_LeakIn_k20 (m_0 : Machine) (hidden_1 : (BitVec 32)) (n_2 : Int) (fuel : Nat) (l16 : List (List Int)) : Option ((List (List Int))) :=
  whileK (σ := (List (List Int)) × Int) (fun s nx_ => syllogistref_LeakIn_b50 m_0 hidden_1 n_2 s.1 s.2 nx_) fuel (l16, ((1 : Int)))

def syllogistref_LeakIn_k220 (nx199 : ((List (List Int)) → Option ((List (List Int))))) (l216 : List (List Int)) : Option ((List (List Int))) :=
  nx199 l216

def syllogistref_LeakIn_b224 (m_0 : Machine) (hidden_1 : (BitVec 32)) (s_197 : Int) (p_223 : Int) (l212 : List (List Int)) (nx225 : (List (List Int)) → Option ((List (List Int)))) : Option ((List (List Int))) :=
  (geti l212 s_197).bind fun y227 =>
  (geti y227 p_223).bind fun y231 =>
  (syllogistref_Sees (({ n := m_0.n, users := m_0.users, acts := m_0.acts, next := m_0.next, sees := m_0.sees } : Machine)) hidden_1 s_197 p_223).bind fun r233 =>
  (bif (!r233) then
  (geti ((l212.set s_197.toNat (y227.set p_223.toNat ((-1 : Int))))) s_197).bind fun y235 =>
  (geti y235 p_223).bind fun y239 =>
  nx225 (((l212.set s_197.toNat (y227.set p_223.toNat ((-1 : Int))))).set s_197.toNat (y235.set p_223.toNat ((0 : Int))))
  else
  nx225 (l212.set s_197.toNat (y227.set p_223.toNat ((-1 : Int)))))

def syllogistref_LeakIn_b198 (m_0 : Machine) (hidden_1 : (BitVec 32)) (s_197 : Int) (l12 : List (List Int)) (nx199 : (List (List Int)) → Option ((List (List Int)))) : Option ((List (List Int))) :=
  bif decide (0 ≤ m_0.n ∧ m_0.n ≤ 1048576) then
  (geti l12 s_197).bind fun y204 =>
  bif decide (m_0.n ≤ 9223372036854775807) then
  forK (σ := (List (List Int))) (fun i s nx_ => syllogistref_LeakIn_b224 m_0 hidden_1 s_197 i s nx_) (fun s => syllogistref_LeakIn_k220 nx199 s) (m_0.n - (0 : Int)).toNat (0 : Int) ((l12.set s_197.toNat ((List.replicate m_0.n.toNat (0 : Int))))) else none else none

def syllogistref_LeakIn (fuel : Nat) (m_0 : Machine) (hidden_1 : (BitVec 32)) (n_2 : Int) : Option ((List (List Int))) :=
  bif decide (0 ≤ m_0.n ∧ m_0.n ≤ 1048576) then
  bif decide (m_0.n ≤ 9223372036854775807) then
  forK (σ := (List (List Int))) (fun i s nx_ => syllogistref_LeakIn_b198 m_0 hidden_1 i s nx_) (fun s => syllogistref_LeakIn_k20 m_0 hidden_1 n_2 fuel s) (m_0.n - (0 : Int)).toNat (0 : Int) ((List.replicate m_0.n.toNat ([] : List Int))) else none else none

set_option maxRecDepth 100000 in
set_option maxHeartbeats 4000000 in
theorem syllogistref_LeakIn_ok (w0 : World) (m : Snap) (l : List HI) (fuel : Nat) (m_0 : Machine) (um_0_3 : Value) (hm_0_3 : RS (Rp.slice (Rp.slice rI)) m um_0_3 m_0.next) (um_0_4 : Value) (hm_0_4 : RS (Rp.slice rI) m um_0_4 m_0.sees) (hidden_1 : (BitVec 32)) (n_2 : Int) (r : (List (List Int))) (hr : syllogistref_LeakIn fuel m_0 hidden_1 n_2 = some r) (w : World) (hc : cX w0 ⟨m, l⟩ w) :
    Calls Try.prog 13 [.agg #[.int .i64 m_0.n, .int .i64 m_0.users, .int .i64 m_0.acts, um_0_3, um_0_4], .int .u32 (hidden_1.toNat : Int), .int .i64 n_2].toArray w fun e w' => ∃ z0 : Value, ∃ m1 : Snap, e = .returned (z0) ∧ Sle m m1 ∧ RS (Rp.slice rI) m1 z0 r ∧ cX w0 ⟨m1, l⟩ w' := by
  unfold syllogistref_LeakIn at hr
  refine calls_of_Tr (N := 150) Try.func13 rfl hc rfl (Nat.le_of_ble_eq_true rfl) ?_
  refine Tr.seq ?_
  refine Tr.region_f (fun i => Nat.beq i 0) ?_
  refine W.e rfl rfl rfl rfl (by decide) (Ef.bx rfl (.t rfl) rfl) ?_
  rintro _ _ ⟨b1, rfl, rfl⟩
  refine ⟨.inl rfl, ?_⟩
  refine W.cast (m' := m) (l' := hcells b1 [_, _, _, _, _] 25 :: l) rfl rfl ?_
  refine W.q rfl rfl rfl rfl (by decide) (Yd.as rfl .c) ?_
  refine W.end ?_
  refine NX.sub (env' := [(1, _), (2, _), (3, _)]) ⟨rfl, rfl, rfl, trivial⟩ ?_
  refine NX.then ?_
  refine Tr.seq ?_
  obtain ⟨hq3, hr⟩ := guard_some hr; replace hq3 := of_decide_eq_true hq3
  refine Tr.region_f (fun i => Nat.beq i 2) ?_
  refine W.q rfl rfl rfl rfl (by decide) (Yd.fldB rfl Try.underlying25 rfl SZ3 rfl (.t rfl)) ?_
  refine W.q rfl rfl rfl rfl (by decide) (Yd.ldB (pos := 0) rfl rfl rfl ON3 (.t rfl)) ?_
  refine W.e rfl rfl rfl rfl (by decide) (Ef.mkM 3 1 encI IF40 rfl rfl Try.underlying23 (.t rfl) (.t rfl) (by omega) (by omega) (by omega)) ?_
  rintro v4 _ rfl
  refine ⟨.inl rfl, ?_⟩
  refine W.cast (m' := m) (l' := hown 40 1 v4 _ _ :: hrows 3 1 encI _ _ :: hcells b1 [_, _, _, _, _] 25 :: l) rfl rfl ?_
  refine W.q rfl rfl rfl rfl (by decide) (Yd.as rfl (.t rfl)) ?_
  refine W.end ?_
  refine NX.sub (env' := [(1, _), (2, _), (3, _), (7, _)]) ⟨rfl, rfl, rfl, rfl, trivial⟩ ?_
  refine NX.then ?_
  refine Tr.seq ?_
  refine Tr.seq ?_
  refine Tr.region_f (fun _ => false) ?_
  refine W.q rfl rfl rfl rfl (by decide) (Yd.as rfl .c) ?_
  refine W.end ?_
  refine NX.sub (env' := [(1, _), (2, _), (3, _), (7, _), (8, _)]) ⟨rfl, rfl, rfl, rfl, rfl, trivial⟩ ?_
  refine NX.then ?_
  refine Tr.join (S := fun env x => ∃ l16 : List (List Int), ∃ v17 : Value, ∃ us18 : List Value, us18.length = l16.length ∧ env = [(1, .int .u32 (hidden_1.toNat : Int)), (2, .int .i64 n_2), (3, bp b1 0), (7, v17)] ∧ x = ⟨m, hown 40 1 v17 l16.length us18 :: hrows 3 1 encI us18 l16 :: hcells b1 [.int .i64 m_0.n, .int .i64 m_0.users, .int .i64 m_0.acts, um_0_3, um_0_4] 25 :: l⟩ ∧ syllogistref_LeakIn_k20 m_0 hidden_1 n_2 fuel l16 = some r) ?_ (fun hk21 => ?_)
  · rintro _ _ ⟨l16, v17, us18, hw19, rfl, rfl, hr⟩
    unfold syllogistref_LeakIn_k20 at hr
    try dsimp only at hr
    refine NX.then ?_
    refine Tr.seq ?_
    refine Tr.seq ?_
    refine Tr.region_f (fun _ => false) ?_
    refine W.q rfl rfl rfl rfl (by decide) (Yd.as rfl .c) ?_
    refine W.end ?_
    refine NX.sub (env' := [(1, _), (2, _), (3, _), (7, _), (10, _)]) ⟨rfl, rfl, rfl, rfl, rfl, trivial⟩ ?_
    refine NX.then ?_
    refine Tr.freezeM (enc := encI) (n := 1) (p := 0) (p2 := 0) (fun _ => rfl) rfl rfl (fun m32 hsm32 hu33 => ?_)
    have hm_0_3 := hm_0_3.mono hsm32
    have hm_0_4 := hm_0_4.mono hsm32
    refine Tr.cast (m' := m32) (l' := hcells b1 [_, _, _, _, _] 25 :: l) rfl rfl ?_
    refine Tr.join (S := fun env x => ∃ t_44 : List (List Int), ∃ m47 : Snap, ∃ u45 : Value, Sle m32 m47 ∧ RS (Rp.slice rI) m47 u45 t_44 ∧ env = [(7, u45)] ∧ x = ⟨m47, l⟩ ∧ syllogistref_LeakIn_k48 t_44 = some r) ?_ (fun hk49 => ?_)
    · rintro _ _ ⟨t_44, m47, u45, hsm47, hu46, rfl, rfl, hr⟩
      unfold syllogistref_LeakIn_k48 at hr
      try dsimp only at hr
      have hm_0_3 := hm_0_3.mono hsm47
      have hm_0_4 := hm_0_4.mono hsm47
      have hu33 := hu33.mono hsm47
      refine NX.then ?_
      refine Tr.seq ?_
      refine Tr.region_f (fun _ => false) ?_
      refine W.q rfl rfl rfl rfl (by decide) (Yd.mv rfl (.t rfl)) ?_
      refine W.q rfl rfl rfl rfl (by decide) (Yd.as rfl (.t rfl)) ?_
      refine W.end ?_
      refine NX.sub (env' := [(6, _)]) ⟨rfl, trivial⟩ ?_
      refine NX.then ?_
      refine Tr.ret' ?_
      refine res1 rfl rfl ?_
      intro w hc
      cases hr
      exact ⟨_, _, rfl, (hsm32.trans hsm47), hu46, hc⟩
    refine Tr.block ?_
    refine Tr.sub (env' := [(1, _), (2, _), (3, _), (7, _), (10, _)]) ⟨rfl, rfl, rfl, rfl, rfl, trivial⟩ ?_
    refine Tr.loop (S := fun n (z : (List (List Int)) × Int) env x => match z with | (t_39, k_42) => ∃ m43 : Snap, ∃ u40 : Value, Sle m32 m43 ∧ RS (Rp.slice rI) m43 u40 t_39 ∧ env = [(1, .int .u32 (hidden_1.toNat : Int)), (2, .int .i64 n_2), (3, bp b1 0), (7, u40), (10, .int .i64 k_42)] ∧ x = ⟨m43, hcells b1 [.int .i64 m_0.n, .int .i64 m_0.users, .int .i64 m_0.acts, um_0_3, um_0_4] 25 :: l⟩ ∧ whileK (σ := (List (List Int)) × Int) (fun s nx_ => syllogistref_LeakIn_b50 m_0 hidden_1 n_2 s.1 s.2 nx_) n (t_39, k_42) = some r) _ (l16, (1 : Int)) ⟨_, _, (.refl _), hu33, rfl, rfl, hr⟩ ?_
    rintro n52 ⟨t_39, k_42⟩ env x ⟨m43, u40, hsm43, hu41, rfl, rfl, hr⟩
    have hm_0_3 := hm_0_3.mono hsm43
    have hm_0_4 := hm_0_4.mono hsm43
    have hu33 := hu33.mono hsm43
    cases n52 with
    | zero => simp [whileK] at hr
    | succ n52 =>
      obtain ⟨nx51, hnx51, hr⟩ := whileK_succ hr
      try dsimp only at hr
      unfold syllogistref_LeakIn_b50 at hr
      try dsimp only at hr
      refine Tr.seq ?_
      refine Tr.seq ?_
      refine Tr.region_f (fun _ => false) ?_
      refine W.q rfl rfl rfl rfl (by decide) (Yd.mv rfl (.t rfl)) ?_
      refine W.q rfl rfl rfl rfl (by decide) (Yd.mv rfl (.t rfl)) ?_
      refine W.q rfl rfl rfl rfl (by decide) (Yd.leq rfl (.t rfl) (.t rfl)) ?_
      refine W.end ?_
      refine NX.sub (env' := [(1, _), (2, _), (3, _), (7, _), (10, _), (58, _)]) ⟨rfl, rfl, rfl, rfl, rfl, rfl, trivial⟩ ?_
      refine NX.then ?_
      refine Tr.cond (.t rfl) (fun hb => ?_) (fun hb => ?_)
      · have hr := cond_t hb hr
        refine Tr.skip' ?_
        refine NX.then ?_
        refine Tr.seq ?_
        refine Tr.block ?_
        refine Tr.seq ?_
        obtain ⟨hq53, hr⟩ := guard_some hr; replace hq53 := of_decide_eq_true hq53
        refine Tr.region_f (fun i => Nat.beq i 2) ?_
        refine W.q rfl rfl rfl rfl (by decide) (Yd.fldB rfl Try.underlying25 rfl SZ3 rfl (.t rfl)) ?_
        refine W.q rfl rfl rfl rfl (by decide) (Yd.ldB (pos := 0) rfl rfl rfl ON3 (.t rfl)) ?_
        refine W.e rfl rfl rfl rfl (by decide) (Ef.mkM 3 1 encI IF40 rfl rfl Try.underlying23 (.t rfl) (.t rfl) (by omega) (by omega) (by omega)) ?_
        rintro v54 _ rfl
        refine ⟨.inl rfl, ?_⟩
        refine W.cast (m' := m43) (l' := hown 40 1 v54 _ _ :: hrows 3 1 encI _ _ :: hcells b1 [_, _, _, _, _] 25 :: l) rfl rfl ?_
        refine W.q rfl rfl rfl rfl (by decide) (Yd.as rfl (.t rfl)) ?_
        refine W.end ?_
        refine NX.sub (env' := [(1, _), (2, _), (3, _), (7, _), (10, _), (11, _)]) ⟨rfl, rfl, rfl, rfl, rfl, rfl, trivial⟩ ?_
        refine NX.then ?_
        refine Tr.seq ?_
        refine Tr.seq ?_
        refine Tr.region_f (fun _ => false) ?_
        refine W.q rfl rfl rfl rfl (by decide) (Yd.as rfl .c) ?_
        refine W.end ?_
        refine NX.sub (env' := [(1, _), (2, _), (3, _), (7, _), (10, _), (11, _), (12, _)]) ⟨rfl, rfl, rfl, rfl, rfl, rfl, rfl, trivial⟩ ?_
        refine NX.then ?_
        refine Tr.join (S := fun env x => ∃ l66 : List (List Int), ∃ v67 : Value, ∃ us68 : List Value, us68.length = l66.length ∧ env = [(1, .int .u32 (hidden_1.toNat : Int)), (2, .int .i64 n_2), (3, bp b1 0), (10, .int .i64 k_42), (11, v67)] ∧ x = ⟨m43, hown 40 1 v67 l66.length us68 :: hrows 3 1 encI us68 l66 :: hcells b1 [.int .i64 m_0.n, .int .i64 m_0.users, .int .i64 m_0.acts, um_0_3, um_0_4] 25 :: l⟩ ∧ syllogistref_LeakIn_k70 k_42 nx51 l66 = some r) ?_ (fun hk71 => ?_)
        · rintro _ _ ⟨l66, v67, us68, hw69, rfl, rfl, hr⟩
          unfold syllogistref_LeakIn_k70 at hr
          try dsimp only at hr
          refine NX.then ?_
          refine Tr.region_f (fun _ => false) ?_
          refine W.q rfl rfl rfl rfl (by decide) (Yd.mv rfl (.t rfl)) ?_
          refine W.q rfl rfl rfl rfl (by decide) (Yd.as rfl (.t rfl)) ?_
          refine W.end ?_
          refine NX.sub (env' := [(1, _), (2, _), (3, _), (10, _), (7, _)]) ⟨rfl, rfl, rfl, rfl, rfl, trivial⟩ ?_
          refine NX.block ?_
          refine NX.then ?_
          refine Tr.region_f (fun _ => false) ?_
          refine W.q rfl rfl rfl rfl (by decide) (Yd.mv rfl (.t rfl)) ?_
          refine W.q rfl rfl rfl rfl (by decide) (Yd.add rfl (.t rfl) .c) ?_
          refine W.q rfl rfl rfl rfl (by decide) (Yd.as rfl (.t rfl)) ?_
          refine W.end ?_
          refine NX.sub (env' := [(1, _), (2, _), (3, _), (10, _), (7, _)]) ⟨rfl, rfl, rfl, rfl, rfl, trivial⟩ ?_
          refine NX.freezeM (enc := encI) (n := 1) (p := 0) (p2 := 0) (fun _ => rfl) rfl rfl (fun m72 hsm72 hu73 => ?_)
          have hm_0_3 := hm_0_3.mono hsm72
          have hm_0_4 := hm_0_4.mono hsm72
          have hu33 := hu33.mono hsm72
          have hu41 := hu41.mono hsm72
          refine NX.cast (m' := m72) (l' := hcells b1 [_, _, _, _, _] 25 :: l) rfl rfl ?_
          refine NX.sub (env' := [(1, _), (2, _), (3, _), (7, _), (10, _)]) ⟨rfl, rfl, rfl, rfl, rfl, trivial⟩ ?_
          exact NX.again n52 (l66, (w64 (k_42 + (1 : Int)))) (Nat.lt_succ_self _) ⟨_, _, (hsm43.trans hsm72), hu73, rfl, rfl, ((hnx51 _).symm.trans hr)⟩
        obtain ⟨hle74, hr⟩ := guard_some hr; replace hle74 := of_decide_eq_true hle74
        refine Tr.block ?_
        refine Tr.sub (env' := [(1, _), (2, _), (3, _), (7, _), (10, _), (11, _), (12, _)]) ⟨rfl, rfl, rfl, rfl, rfl, rfl, rfl, trivial⟩ ?_
        refine Tr.loop (S := fun n (z : Int × (List (List Int))) env x => match z with | (s_75, l62) => ∃ v63 : Value, ∃ us64 : List Value, us64.length = l62.length ∧ env = [(1, .int .u32 (hidden_1.toNat : Int)), (2, .int .i64 n_2), (3, bp b1 0), (7, u40), (10, .int .i64 k_42), (11, v63), (12, .int .i64 s_75)] ∧ x = ⟨m43, hown 40 1 v63 l62.length us64 :: hrows 3 1 encI us64 l62 :: hcells b1 [.int .i64 m_0.n, .int .i64 m_0.users, .int .i64 m_0.acts, um_0_3, um_0_4] 25 :: l⟩ ∧ n = (m_0.n - s_75).toNat ∧ 0 ≤ s_75 ∧ forK (σ := (List (List Int))) (fun i s nx_ => syllogistref_LeakIn_b76 m_0 hidden_1 t_39 k_42 i s nx_) (fun s => syllogistref_LeakIn_k70 k_42 nx51 s) n s_75 l62 = some r) _ ((0 : Int), (List.replicate m_0.n.toNat ([] : List Int))) ⟨_, _, (lenRep : (List.replicate m_0.n.toNat (Value.slice none 0 0)).length = (List.replicate m_0.n.toNat ([] : List Int)).length), rfl, rfl, rfl, (by omega), hr⟩ ?_
        rintro n78 ⟨s_75, l62⟩ env x ⟨v63, us64, hw65, rfl, rfl, hns_75, h0s_75, hr⟩
        cases n78 with
        | zero =>
          simp only [forK] at hr
          refine Tr.seq ?_
          refine Tr.seq ?_
          refine Tr.region_f (fun _ => false) ?_
          refine W.q rfl rfl rfl rfl (by decide) (Yd.mv rfl (.t rfl)) ?_
          refine W.q rfl rfl rfl rfl (by decide) (Yd.fldB rfl Try.underlying25 rfl SZ3 rfl (.t rfl)) ?_
          refine W.q rfl rfl rfl rfl (by decide) (Yd.ldB (pos := 2) rfl rfl rfl ON3 (.t rfl)) ?_
          refine W.q rfl rfl rfl rfl (by decide) (Yd.lss rfl (.t rfl) (.t rfl)) ?_
          refine W.end ?_
          refine NX.sub (env' := [(1, _), (2, _), (3, _), (7, _), (10, _), (11, _), (12, _), (67, _)]) ⟨rfl, rfl, rfl, rfl, rfl, rfl, rfl, rfl, trivial⟩ ?_
          refine NX.then ?_
          refine Tr.cond (.t rfl) (fun hb => ?_) (fun hb => ?_)
          · exact absurd (hb.symm.trans (fr_end hns_75)) (by decide)
          ·
            refine Tr.exit' (EX.then (EX.then (EX.block ?_)))
            refine NX.sub (env' := [(1, _), (2, _), (3, _), (10, _), (11, _)]) ⟨rfl, rfl, rfl, rfl, rfl, trivial⟩ ?_
            exact hk71 _ _ ⟨_, _, _, hw65, rfl, rfl, hr⟩
        | succ n78 =>
          obtain ⟨nx77, hnx77, hr⟩ := forK_succ hr
          try dsimp only at hr
          unfold syllogistref_LeakIn_b76 at hr
          try dsimp only at hr
          have hlts_75 := fr_bnd hns_75
          refine Tr.seq ?_
          refine Tr.seq ?_
          refine Tr.region_f (fun _ => false) ?_
          refine W.q rfl rfl rfl rfl (by decide) (Yd.mv rfl (.t rfl)) ?_
          refine W.q rfl rfl rfl rfl (by decide) (Yd.fldB rfl Try.underlying25 rfl SZ3 rfl (.t rfl)) ?_
          refine W.q rfl rfl rfl rfl (by decide) (Yd.ldB (pos := 2) rfl rfl rfl ON3 (.t rfl)) ?_
          refine W.q rfl rfl rfl rfl (by decide) (Yd.lss rfl (.t rfl) (.t rfl)) ?_
          refine W.end ?_
          refine NX.sub (env' := [(1, _), (2, _), (3, _), (7, _), (10, _), (11, _), (12, _), (67, _)]) ⟨rfl, rfl, rfl, rfl, rfl, rfl, rfl, rfl, trivial⟩ ?_
          refine NX.then ?_
          refine Tr.cond (.t rfl) (fun hb => ?_) (fun hb => ?_)
          rotate_left
          · exact absurd (hb.symm.trans (fr_go hns_75)) (by decide)
          ·
            refine Tr.skip' ?_
            refine NX.then ?_
            refine Tr.seq ?_
            refine Tr.block ?_
            refine Tr.seq ?_
            obtain ⟨y81, hy82, hr⟩ := bind_some hr
            obtain ⟨hq87, hr⟩ := guard_some hr; replace hq87 := of_decide_eq_true hq87
            obtain ⟨y88, hy89, hr⟩ := bind_some hr
            refine Tr.region_f (fun i => Nat.beq i 2 || Nat.beq i 7 || Nat.beq i 9) ?_
            refine W.q rfl rfl rfl rfl (by decide) (Yd.mv rfl (.t rfl)) ?_
            refine W.q rfl rfl rfl rfl (by decide) (Yd.mv rfl (.t rfl)) ?_
            refine W.e rfl rfl rfl rfl (by decide) (Ef.bsT (enc := encI) (vs := []) (ys := []) (fun _ => rfl) IF3 rfl Try.underlying40 (by decide) rfl .nil rfl rfl (by decide)) ?_
            rintro v79 _ rfl
            refine ⟨.inl rfl, ?_⟩
            refine W.cast (m' := m43) (l' := hownT 3 1 encI v79 _ :: hown 40 1 v63 _ _ :: hrows 3 1 encI _ _ :: hcells b1 [_, _, _, _, _] 25 :: l) rfl rfl ?_
            refine W.q rfl rfl rfl rfl (by decide) (Yd.mv rfl (.t rfl)) ?_
            refine W.q rfl rfl rfl rfl (by decide) (Yd.mv rfl (.t rfl)) ?_
            refine W.q rfl rfl rfl rfl (by decide) (Yd.idxR hu41 hy82 rfl Try.underlying23 SZ40 (.t rfl) (.t rfl)) ?_
            obtain ⟨u83, hu84, hat85⟩ := hu41.row hy82
            refine W.q rfl rfl rfl rfl (by decide) (Yd.ldRow hat85 (.refl _) rfl ON40 (.t rfl)) ?_
            refine W.e rfl rfl rfl rfl (by decide) (Ef.apI (pos := 0) (enc := encI) (xs := ([] : List Int)) (ys := y81) (fun _ => rfl) IF3 rfl rfl Try.underlying40 rfl (by decide) (.t rfl) (.t rfl) (Src.rs (by decide) (.refl _) hu84) (fun _ => rfl) (by omega) (by omega)) ?_
            rintro v86 _ rfl
            refine ⟨.inl rfl, ?_⟩
            refine W.cast (m' := m43) (l' := hownT 3 1 encI v86 _ :: hown 40 1 v63 _ _ :: hrows 3 1 encI _ _ :: hcells b1 [_, _, _, _, _] 25 :: l) rfl rfl ?_
            refine W.q rfl rfl rfl rfl (by decide) (Yd.idxO (pos := 1) (xs := l62) rfl hy89 rfl Try.underlying23 SZ40 (.t rfl) (.t rfl)) ?_
            refine W.s rfl rfl rfl rfl (Ef.stR (pos := 1) (pos2 := 0) (xss := l62) ((([] : List Int) ++ y81)) rfl rfl hy89 hw65 rfl (.t rfl) (.t rfl) SZ40) ?_
            rintro _ _ ⟨rfl, rfl⟩
            refine ⟨.inl rfl, ?_⟩
            refine W.cast (m' := m43) (l' := hownT 3 1 encI v86 _ :: hown 40 1 v63 _ _ :: hrows 3 1 encI _ _ :: hcells b1 [_, _, _, _, _] 25 :: l) rfl rfl ?_
            refine W.end ?_
            refine NX.imp (fun w hw => cX_setM (po := 0) (pr := 1) (i := s_75.toNat) rfl rfl (geti_some hy89).2.2 hw) ?_
            refine NX.cast (m' := m43) (l' := hown 40 1 v63 _ _ :: hrows 3 1 encI _ _ :: hcells b1 [_, _, _, _, _] 25 :: l) rfl rfl ?_
            refine NX.sub (env' := [(1, _), (2, _), (3, _), (7, _), (10, _), (11, _), (12, _)]) ⟨rfl, rfl, rfl, rfl, rfl, rfl, rfl, trivial⟩ ?_
            refine NX.then ?_
            refine Tr.seq ?_
            refine Tr.region_f (fun _ => false) ?_
            refine W.q rfl rfl rfl rfl (by decide) (Yd.as rfl .c) ?_
            refine W.end ?_
            refine NX.sub (env' := [(1, _), (2, _), (3, _), (7, _), (10, _), (11, _), (12, _), (13, _)]) ⟨rfl, rfl, rfl, rfl, rfl, rfl, rfl, rfl, trivial⟩ ?_
            refine NX.then ?_
            refine Tr.join (S := fun env x => ∃ l100 : List (List Int), ∃ v101 : Value, ∃ us102 : List Value, us102.length = l100.length ∧ env = [(1, .int .u32 (hidden_1.toNat : Int)), (2, .int .i64 n_2), (3, bp b1 0), (7, u40), (10, .int .i64 k_42), (11, v101), (12, .int .i64 s_75)] ∧ x = ⟨m43, hown 40 1 v101 l100.length us102 :: hrows 3 1 encI us102 l100 :: hcells b1 [.int .i64 m_0.n, .int .i64 m_0.users, .int .i64 m_0.acts, um_0_3, um_0_4] 25 :: l⟩ ∧ syllogistref_LeakIn_k104 nx77 l100 = some r) ?_ (fun hk105 => ?_)
            · rintro _ _ ⟨l100, v101, us102, hw103, rfl, rfl, hr⟩
              unfold syllogistref_LeakIn_k104 at hr
              try dsimp only at hr
              refine NX.block ?_
              refine NX.then ?_
              refine Tr.region_f (fun _ => false) ?_
              refine W.q rfl rfl rfl rfl (by decide) (Yd.mv rfl (.t rfl)) ?_
              refine W.q rfl rfl rfl rfl (by decide) (Yd.add rfl (.t rfl) .c) ?_
              refine W.q rfl rfl rfl rfl (by decide) (Yd.as rfl (.t rfl)) ?_
              refine W.end ?_
              refine NX.sub (env' := [(1, _), (2, _), (3, _), (7, _), (10, _), (11, _), (12, _)]) ⟨rfl, rfl, rfl, rfl, rfl, rfl, rfl, trivial⟩ ?_
              refine NX.sub (env' := [(1, _), (2, _), (3, _), (7, _), (10, _), (11, _), (12, _)]) ⟨rfl, rfl, rfl, rfl, rfl, rfl, rfl, trivial⟩ ?_
              have hw := w64_id (n := s_75 + 1) (by omega) (by omega)
              exact NX.again n78 (s_75 + 1, l100) (Nat.lt_succ_self _) ⟨_, _, hw103, (by rw [hw] <;> rfl), rfl, (fr_dec hns_75), (by omega), ((hnx77 _).symm.trans hr)⟩
            obtain ⟨hle106, hr⟩ := guard_some hr; replace hle106 := of_decide_eq_true hle106
            refine Tr.block ?_
            refine Tr.sub (env' := [(1, _), (2, _), (3, _), (7, _), (10, _), (11, _), (12, _), (13, _)]) ⟨rfl, rfl, rfl, rfl, rfl, rfl, rfl, rfl, trivial⟩ ?_
            refine Tr.loop (S := fun n (z : Int × (List (List Int))) env x => match z with | (p_107, l96) => ∃ v97 : Value, ∃ us98 : List Value, us98.length = l96.length ∧ env = [(1, .int .u32 (hidden_1.toNat : Int)), (2, .int .i64 n_2), (3, bp b1 0), (7, u40), (10, .int .i64 k_42), (11, v97), (12, .int .i64 s_75), (13, .int .i64 p_107)] ∧ x = ⟨m43, hown 40 1 v97 l96.length us98 :: hrows 3 1 encI us98 l96 :: hcells b1 [.int .i64 m_0.n, .int .i64 m_0.users, .int .i64 m_0.acts, um_0_3, um_0_4] 25 :: l⟩ ∧ n = (m_0.n - p_107).toNat ∧ 0 ≤ p_107 ∧ forK (σ := (List (List Int))) (fun i s nx_ => syllogistref_LeakIn_b108 m_0 hidden_1 t_39 k_42 s_75 i s nx_) (fun s => syllogistref_LeakIn_k104 nx77 s) n p_107 l96 = some r) _ ((0 : Int), (l62.set s_75.toNat ((([] : List Int) ++ y81)))) ⟨_, _, (lenSet hw65), rfl, rfl, rfl, (by omega), hr⟩ ?_
            rintro n110 ⟨p_107, l96⟩ env x ⟨v97, us98, hw99, rfl, rfl, hnp_107, h0p_107, hr⟩
            cases n110 with
            | zero =>
              simp only [forK] at hr
              refine Tr.seq ?_
              refine Tr.seq ?_
              refine Tr.region_f (fun _ => false) ?_
              refine W.q rfl rfl rfl rfl (by decide) (Yd.mv rfl (.t rfl)) ?_
              refine W.q rfl rfl rfl rfl (by decide) (Yd.fldB rfl Try.underlying25 rfl SZ3 rfl (.t rfl)) ?_
              refine W.q rfl rfl rfl rfl (by decide) (Yd.ldB (pos := 2) rfl rfl rfl ON3 (.t rfl)) ?_
              refine W.q rfl rfl rfl rfl (by decide) (Yd.lss rfl (.t rfl) (.t rfl)) ?_
              refine W.end ?_
              refine NX.sub (env' := [(1, _), (2, _), (3, _), (7, _), (10, _), (11, _), (12, _), (13, _), (82, _)]) ⟨rfl, rfl, rfl, rfl, rfl, rfl, rfl, rfl, rfl, trivial⟩ ?_
              refine NX.then ?_
              refine Tr.cond (.t rfl) (fun hb => ?_) (fun hb => ?_)
              · exact absurd (hb.symm.trans (fr_end hnp_107)) (by decide)
              ·
                refine Tr.exit' (EX.then (EX.then (EX.block ?_)))
                refine NX.sub (env' := [(1, _), (2, _), (3, _), (7, _), (10, _), (11, _), (12, _)]) ⟨rfl, rfl, rfl, rfl, rfl, rfl, rfl, trivial⟩ ?_
                exact hk105 _ _ ⟨_, _, _, hw99, rfl, rfl, hr⟩
            | succ n110 =>
              obtain ⟨nx109, hnx109, hr⟩ := forK_succ hr
              try dsimp only at hr
              unfold syllogistref_LeakIn_b108 at hr
              try dsimp only at hr
              have hltp_107 := fr_bnd hnp_107
              refine Tr.seq ?_
              refine Tr.seq ?_
              refine Tr.region_f (fun _ => false) ?_
              refine W.q rfl rfl rfl rfl (by decide) (Yd.mv rfl (.t rfl)) ?_
              refine W.q rfl rfl rfl rfl (by decide) (Yd.fldB rfl Try.underlying25 rfl SZ3 rfl (.t rfl)) ?_
              refine W.q rfl rfl rfl rfl (by decide) (Yd.ldB (pos := 2) rfl rfl rfl ON3 (.t rfl)) ?_
              refine W.q rfl rfl rfl rfl (by decide) (Yd.lss rfl (.t rfl) (.t rfl)) ?_
              refine W.end ?_
              refine NX.sub (env' := [(1, _), (2, _), (3, _), (7, _), (10, _), (11, _), (12, _), (13, _), (82, _)]) ⟨rfl, rfl, rfl, rfl, rfl, rfl, rfl, rfl, rfl, trivial⟩ ?_
              refine NX.then ?_
              refine Tr.cond (.t rfl) (fun hb => ?_) (fun hb => ?_)
              rotate_left
              · exact absurd (hb.symm.trans (fr_go hnp_107)) (by decide)
              ·
                refine Tr.skip' ?_
                refine NX.then ?_
                refine Tr.seq ?_
                refine Tr.block ?_
                refine Tr.seq ?_
                refine Tr.region_f (fun _ => false) ?_
                refine W.q rfl rfl rfl rfl (by decide) (Yd.as rfl .c) ?_
                refine W.end ?_
                refine NX.sub (env' := [(1, _), (2, _), (3, _), (7, _), (10, _), (11, _), (12, _), (13, _), (14, _)]) ⟨rfl, rfl, rfl, rfl, rfl, rfl, rfl, rfl, rfl, trivial⟩ ?_
                refine NX.then ?_
                refine Tr.join (S := fun env x => ∃ l121 : List (List Int), ∃ v122 : Value, ∃ us123 : List Value, us123.length = l121.length ∧ env = [(1, .int .u32 (hidden_1.toNat : Int)), (2, .int .i64 n_2), (3, bp b1 0), (7, u40), (10, .int .i64 k_42), (11, v122), (12, .int .i64 s_75), (13, .int .i64 p_107)] ∧ x = ⟨m43, hown 40 1 v122 l121.length us123 :: hrows 3 1 encI us123 l121 :: hcells b1 [.int .i64 m_0.n, .int .i64 m_0.users, .int .i64 m_0.acts, um_0_3, um_0_4] 25 :: l⟩ ∧ syllogistref_LeakIn_k125 nx109 l121 = some r) ?_ (fun hk126 => ?_)
                · rintro _ _ ⟨l121, v122, us123, hw124, rfl, rfl, hr⟩
                  unfold syllogistref_LeakIn_k125 at hr
                  try dsimp only at hr
                  refine NX.block ?_
                  refine NX.then ?_
                  refine Tr.region_f (fun _ => false) ?_
                  refine W.q rfl rfl rfl rfl (by decide) (Yd.mv rfl (.t rfl)) ?_
                  refine W.q rfl rfl rfl rfl (by decide) (Yd.add rfl (.t rfl) .c) ?_
                  refine W.q rfl rfl rfl rfl (by decide) (Yd.as rfl (.t rfl)) ?_
                  refine W.end ?_
                  refine NX.sub (env' := [(1, _), (2, _), (3, _), (7, _), (10, _), (11, _), (12, _), (13, _)]) ⟨rfl, rfl, rfl, rfl, rfl, rfl, rfl, rfl, trivial⟩ ?_
                  refine NX.sub (env' := [(1, _), (2, _), (3, _), (7, _), (10, _), (11, _), (12, _), (13, _)]) ⟨rfl, rfl, rfl, rfl, rfl, rfl, rfl, rfl, trivial⟩ ?_
                  have hw := w64_id (n := p_107 + 1) (by omega) (by omega)
                  exact NX.again n110 (p_107 + 1, l121) (Nat.lt_succ_self _) ⟨_, _, hw124, (by rw [hw] <;> rfl), rfl, (fr_dec hnp_107), (by omega), ((hnx109 _).symm.trans hr)⟩
                obtain ⟨hle127, hr⟩ := guard_some hr; replace hle127 := of_decide_eq_true hle127
                refine Tr.block ?_
                refine Tr.sub (env' := [(1, _), (2, _), (3, _), (7, _), (10, _), (11, _), (12, _), (13, _), (14, _)]) ⟨rfl, rfl, rfl, rfl, rfl, rfl, rfl, rfl, rfl, trivial⟩ ?_
                refine Tr.loop (S := fun n (z : Int × (List (List Int))) env x => match z with | (u_128, l117) => ∃ v118 : Value, ∃ us119 : List Value, us119.length = l117.length ∧ env = [(1, .int .u32 (hidden_1.toNat : Int)), (2, .int .i64 n_2), (3, bp b1 0), (7, u40), (10, .int .i64 k_42), (11, v118), (12, .int .i64 s_75), (13, .int .i64 p_107), (14, .int .i64 u_128)] ∧ x = ⟨m43, hown 40 1 v118 l117.length us119 :: hrows 3 1 encI us119 l117 :: hcells b1 [.int .i64 m_0.n, .int .i64 m_0.users, .int .i64 m_0.acts, um_0_3, um_0_4] 25 :: l⟩ ∧ n = (m_0.users - u_128).toNat ∧ 0 ≤ u_128 ∧ forK (σ := (List (List Int))) (fun i s nx_ => syllogistref_LeakIn_b129 m_0 hidden_1 t_39 k_42 s_75 p_107 i s nx_) (fun s => syllogistref_LeakIn_k125 nx109 s) n u_128 l117 = some r) _ ((0 : Int), l96) ⟨_, _, hw99, rfl, rfl, rfl, (by omega), hr⟩ ?_
                rintro n131 ⟨u_128, l117⟩ env x ⟨v118, us119, hw120, rfl, rfl, hnu_128, h0u_128, hr⟩
                cases n131 with
                | zero =>
                  simp only [forK] at hr
                  refine Tr.seq ?_
                  refine Tr.seq ?_
                  refine Tr.region_f (fun _ => false) ?_
                  refine W.q rfl rfl rfl rfl (by decide) (Yd.mv rfl (.t rfl)) ?_
                  refine W.q rfl rfl rfl rfl (by decide) (Yd.fldB rfl Try.underlying25 rfl SZ3 rfl (.t rfl)) ?_
                  refine W.q rfl rfl rfl rfl (by decide) (Yd.ldB (pos := 2) rfl rfl rfl ON3 (.t rfl)) ?_
                  refine W.q rfl rfl rfl rfl (by decide) (Yd.lss rfl (.t rfl) (.t rfl)) ?_
                  refine W.end ?_
                  refine NX.sub (env' := [(1, _), (2, _), (3, _), (7, _), (10, _), (11, _), (12, _), (13, _), (14, _), (88, _)]) ⟨rfl, rfl, rfl, rfl, rfl, rfl, rfl, rfl, rfl, rfl, trivial⟩ ?_
                  refine NX.then ?_
                  refine Tr.cond (.t rfl) (fun hb => ?_) (fun hb => ?_)
                  · exact absurd (hb.symm.trans (fr_end hnu_128)) (by decide)
                  ·
                    refine Tr.exit' (EX.then (EX.then (EX.block ?_)))
                    refine NX.sub (env' := [(1, _), (2, _), (3, _), (7, _), (10, _), (11, _), (12, _), (13, _)]) ⟨rfl, rfl, rfl, rfl, rfl, rfl, rfl, rfl, trivial⟩ ?_
                    exact hk126 _ _ ⟨_, _, _, hw120, rfl, rfl, hr⟩
                | succ n131 =>
                  obtain ⟨nx130, hnx130, hr⟩ := forK_succ hr
                  try dsimp only at hr
                  unfold syllogistref_LeakIn_b129 at hr
                  try dsimp only at hr
                  have hltu_128 := fr_bnd hnu_128
                  refine Tr.seq ?_
                  refine Tr.seq ?_
                  refine Tr.region_f (fun _ => false) ?_
                  refine W.q rfl rfl rfl rfl (by decide) (Yd.mv rfl (.t rfl)) ?_
                  refine W.q rfl rfl rfl rfl (by decide) (Yd.fldB rfl Try.underlying25 rfl SZ3 rfl (.t rfl)) ?_
                  refine W.q rfl rfl rfl rfl (by decide) (Yd.ldB (pos := 2) rfl rfl rfl ON3 (.t rfl)) ?_
                  refine W.q rfl rfl rfl rfl (by decide) (Yd.lss rfl (.t rfl) (.t rfl)) ?_
                  refine W.end ?_
                  refine NX.sub (env' := [(1, _), (2, _), (3, _), (7, _), (10, _), (11, _), (12, _), (13, _), (14, _), (88, _)]) ⟨rfl, rfl, rfl, rfl, rfl, rfl, rfl, rfl, rfl, rfl, trivial⟩ ?_
                  refine NX.then ?_
                  refine Tr.cond (.t rfl) (fun hb => ?_) (fun hb => ?_)
                  rotate_left
                  · exact absurd (hb.symm.trans (fr_go hnu_128)) (by decide)
                  ·
                    refine Tr.skip' ?_
                    refine NX.then ?_
                    refine Tr.seq ?_
                    refine Tr.block ?_
                    refine Tr.seq ?_
                    refine Tr.region_f (fun _ => false) ?_
                    refine W.q rfl rfl rfl rfl (by decide) (Yd.as rfl .c) ?_
                    refine W.end ?_
                    refine NX.sub (env' := [(1, _), (2, _), (3, _), (7, _), (10, _), (11, _), (12, _), (13, _), (14, _), (15, _)]) ⟨rfl, rfl, rfl, rfl, rfl, rfl, rfl, rfl, rfl, rfl, trivial⟩ ?_
                    refine NX.then ?_
                    refine Tr.join (S := fun env x => ∃ l142 : List (List Int), ∃ v143 : Value, ∃ us144 : List Value, us144.length = l142.length ∧ env = [(1, .int .u32 (hidden_1.toNat : Int)), (2, .int .i64 n_2), (3, bp b1 0), (7, u40), (10, .int .i64 k_42), (11, v143), (12, .int .i64 s_75), (13, .int .i64 p_107), (14, .int .i64 u_128)] ∧ x = ⟨m43, hown 40 1 v143 l142.length us144 :: hrows 3 1 encI us144 l142 :: hcells b1 [.int .i64 m_0.n, .int .i64 m_0.users, .int .i64 m_0.acts, um_0_3, um_0_4] 25 :: l⟩ ∧ syllogistref_LeakIn_k146 nx130 l142 = some r) ?_ (fun hk147 => ?_)
                    · rintro _ _ ⟨l142, v143, us144, hw145, rfl, rfl, hr⟩
                      unfold syllogistref_LeakIn_k146 at hr
                      try dsimp only at hr
                      refine NX.block ?_
                      refine NX.then ?_
                      refine Tr.region_f (fun _ => false) ?_
                      refine W.q rfl rfl rfl rfl (by decide) (Yd.mv rfl (.t rfl)) ?_
                      refine W.q rfl rfl rfl rfl (by decide) (Yd.add rfl (.t rfl) .c) ?_
                      refine W.q rfl rfl rfl rfl (by decide) (Yd.as rfl (.t rfl)) ?_
                      refine W.end ?_
                      refine NX.sub (env' := [(1, _), (2, _), (3, _), (7, _), (10, _), (11, _), (12, _), (13, _), (14, _)]) ⟨rfl, rfl, rfl, rfl, rfl, rfl, rfl, rfl, rfl, trivial⟩ ?_
                      refine NX.sub (env' := [(1, _), (2, _), (3, _), (7, _), (10, _), (11, _), (12, _), (13, _), (14, _)]) ⟨rfl, rfl, rfl, rfl, rfl, rfl, rfl, rfl, rfl, trivial⟩ ?_
                      have hw := w64_id (n := u_128 + 1) (by omega) (by omega)
                      exact NX.again n131 (u_128 + 1, l142) (Nat.lt_succ_self _) ⟨_, _, hw145, (by rw [hw] <;> rfl), rfl, (fr_dec hnu_128), (by omega), ((hnx130 _).symm.trans hr)⟩
                    obtain ⟨hle148, hr⟩ := guard_some hr; replace hle148 := of_decide_eq_true hle148
                    refine Tr.block ?_
                    refine Tr.sub (env' := [(1, _), (2, _), (3, _), (7, _), (10, _), (11, _), (12, _), (13, _), (14, _), (15, _)]) ⟨rfl, rfl, rfl, rfl, rfl, rfl, rfl, rfl, rfl, rfl, trivial⟩ ?_
                    refine Tr.loop (S := fun n (z : Int × (List (List Int))) env x => match z with | (a_149, l138) => ∃ v139 : Value, ∃ us140 : List Value, us140.length = l138.length ∧ env = [(1, .int .u32 (hidden_1.toNat : Int)), (2, .int .i64 n_2), (3, bp b1 0), (7, u40), (10, .int .i64 k_42), (11, v139), (12, .int .i64 s_75), (13, .int .i64 p_107), (14, .int .i64 u_128), (15, .int .i64 a_149)] ∧ x = ⟨m43, hown 40 1 v139 l138.length us140 :: hrows 3 1 encI us140 l138 :: hcells b1 [.int .i64 m_0.n, .int .i64 m_0.users, .int .i64 m_0.acts, um_0_3, um_0_4] 25 :: l⟩ ∧ n = (m_0.acts - a_149).toNat ∧ 0 ≤ a_149 ∧ forK (σ := (List (List Int))) (fun i s nx_ => syllogistref_LeakIn_b150 m_0 hidden_1 t_39 k_42 s_75 p_107 u_128 i s nx_) (fun s => syllogistref_LeakIn_k146 nx130 s) n a_149 l138 = some r) _ ((0 : Int), l117) ⟨_, _, hw120, rfl, rfl, rfl, (by omega), hr⟩ ?_
                    rintro n152 ⟨a_149, l138⟩ env x ⟨v139, us140, hw141, rfl, rfl, hna_149, h0a_149, hr⟩
                    cases n152 with
                    | zero =>
                      simp only [forK] at hr
                      refine Tr.seq ?_
                      refine Tr.seq ?_
                      refine Tr.region_f (fun _ => false) ?_
                      refine W.q rfl rfl rfl rfl (by decide) (Yd.mv rfl (.t rfl)) ?_
                      refine W.q rfl rfl rfl rfl (by decide) (Yd.fldB rfl Try.underlying25 rfl SZ3 rfl (.t rfl)) ?_
                      refine W.q rfl rfl rfl rfl (by decide) (Yd.ldB (pos := 2) rfl rfl rfl ON3 (.t rfl)) ?_
                      refine W.q rfl rfl rfl rfl (by decide) (Yd.lss rfl (.t rfl) (.t rfl)) ?_
                      refine W.end ?_
                      refine NX.sub (env' := [(1, _), (2, _), (3, _), (7, _), (10, _), (11, _), (12, _), (13, _), (14, _), (15, _), (94, _)]) ⟨rfl, rfl, rfl, rfl, rfl, rfl, rfl, rfl, rfl, rfl, rfl, trivial⟩ ?_
                      refine NX.then ?_
                      refine Tr.cond (.t rfl) (fun hb => ?_) (fun hb => ?_)
                      · exact absurd (hb.symm.trans (fr_end hna_149)) (by decide)
                      ·
                        refine Tr.exit' (EX.then (EX.then (EX.block ?_)))
                        refine NX.sub (env' := [(1, _), (2, _), (3, _), (7, _), (10, _), (11, _), (12, _), (13, _), (14, _)]) ⟨rfl, rfl, rfl, rfl, rfl, rfl, rfl, rfl, rfl, trivial⟩ ?_
                        exact hk147 _ _ ⟨_, _, _, hw141, rfl, rfl, hr⟩
                    | succ n152 =>
                      obtain ⟨nx151, hnx151, hr⟩ := forK_succ hr
                      try dsimp only at hr
                      unfold syllogistref_LeakIn_b150 at hr
                      try dsimp only at hr
                      have hlta_149 := fr_bnd hna_149
                      refine Tr.seq ?_
                      refine Tr.seq ?_
                      refine Tr.region_f (fun _ => false) ?_
                      refine W.q rfl rfl rfl rfl (by decide) (Yd.mv rfl (.t rfl)) ?_
                      refine W.q rfl rfl rfl rfl (by decide) (Yd.fldB rfl Try.underlying25 rfl SZ3 rfl (.t rfl)) ?_
                      refine W.q rfl rfl rfl rfl (by decide) (Yd.ldB (pos := 2) rfl rfl rfl ON3 (.t rfl)) ?_
                      refine W.q rfl rfl rfl rfl (by decide) (Yd.lss rfl (.t rfl) (.t rfl)) ?_
                      refine W.end ?_
                      refine NX.sub (env' := [(1, _), (2, _), (3, _), (7, _), (10, _), (11, _), (12, _), (13, _), (14, _), (15, _), (94, _)]) ⟨rfl, rfl, rfl, rfl, rfl, rfl, rfl, rfl, rfl, rfl, rfl, trivial⟩ ?_
                      refine NX.then ?_
                      refine Tr.cond (.t rfl) (fun hb => ?_) (fun hb => ?_)
                      rotate_left
                      · exact absurd (hb.symm.trans (fr_go hna_149)) (by decide)
                      ·
                        refine Tr.skip' ?_
                        refine NX.then ?_
                        refine Tr.seq ?_
                        refine Tr.block ?_
                        refine Tr.seq ?_
                        refine Tr.region_f (fun _ => false) ?_
                        refine W.q rfl rfl rfl rfl (by decide) (Yd.mv rfl (.t rfl)) ?_
                        refine W.q rfl rfl rfl rfl (by decide) (Yd.as rfl (.t rfl)) ?_
                        refine W.end ?_
                        refine NX.sub (env' := [(1, _), (2, _), (3, _), (7, _), (10, _), (11, _), (12, _), (13, _), (14, _), (15, _), (16, _)]) ⟨rfl, rfl, rfl, rfl, rfl, rfl, rfl, rfl, rfl, rfl, rfl, trivial⟩ ?_
                        refine NX.then ?_
                        refine Tr.seq ?_
                        refine Tr.seq ?_
                        obtain ⟨r153, hr154, hr⟩ := bind_some hr
                        refine Tr.region_f (fun _ => false) ?_
                        refine W.q rfl rfl rfl rfl (by decide) (Yd.mv rfl (.t rfl)) ?_
                        refine W.q rfl rfl rfl rfl (by decide) (Yd.mv rfl (.t rfl)) ?_
                        refine W.q rfl rfl rfl rfl (by decide) (Yd.call (v := .bool r153) rfl Try.func17 rfl rfl (.cons (.t rfl) (.cons (.t rfl) .nil)) (fun x' hx w hw => syllogistref_Bit_ok w0 x'.m x'.l hidden_1 u_128 _ hr154 w hw)) ?_
                        refine W.q rfl rfl rfl rfl (by decide) (Yd.not rfl (.t rfl)) ?_
                        refine W.end ?_
                        refine NX.sub (env' := [(1, _), (2, _), (3, _), (7, _), (10, _), (11, _), (12, _), (13, _), (14, _), (15, _), (16, _), (101, _)]) ⟨rfl, rfl, rfl, rfl, rfl, rfl, rfl, rfl, rfl, rfl, rfl, rfl, trivial⟩ ?_
                        refine NX.then ?_
                        refine Tr.join (S := fun env x => ∃ q_155 : Int, env = [(1, .int .u32 (hidden_1.toNat : Int)), (2, .int .i64 n_2), (3, bp b1 0), (7, u40), (10, .int .i64 k_42), (11, v139), (12, .int .i64 s_75), (13, .int .i64 p_107), (14, .int .i64 u_128), (15, .int .i64 a_149), (16, .int .i64 q_155)] ∧ x = ⟨m43, hown 40 1 v139 l138.length us140 :: hrows 3 1 encI us140 l138 :: hcells b1 [.int .i64 m_0.n, .int .i64 m_0.users, .int .i64 m_0.acts, um_0_3, um_0_4] 25 :: l⟩ ∧ syllogistref_LeakIn_k156 m_0 t_39 k_42 s_75 p_107 u_128 a_149 l138 nx151 q_155 = some r) ?_ (fun hk157 => ?_)
                        · rintro _ _ ⟨q_155, rfl, rfl, hr⟩
                          unfold syllogistref_LeakIn_k156 at hr
                          try dsimp only at hr
                          refine NX.then ?_
                          refine Tr.seq ?_
                          obtain ⟨y158, hy159, hr⟩ := bind_some hr
                          obtain ⟨y162, hy163, hr⟩ := bind_some hr
                          obtain ⟨ha164, hr⟩ := guard_some hr
                          obtain ⟨ha168, hr⟩ := guard_some hr
                          obtain ⟨ha172, hr⟩ := guard_some hr
                          obtain ⟨ha173, hr⟩ := guard_some hr
                          obtain ⟨ha177, hr⟩ := guard_some hr
                          refine Tr.region_f (fun _ => false) ?_
                          refine W.q rfl rfl rfl rfl (by decide) (Yd.mv rfl (.t rfl)) ?_
                          refine W.q rfl rfl rfl rfl (by decide) (Yd.mv rfl (.t rfl)) ?_
                          refine W.q rfl rfl rfl rfl (by decide) (Yd.idxO (pos := 0) (xs := l138) rfl hy159 rfl Try.underlying23 SZ40 (.t rfl) (.t rfl)) ?_
                          obtain ⟨u160, hu161⟩ := us_get hw141 hy159
                          refine W.q rfl rfl rfl rfl (by decide) (Yd.ldU (pos := 0) rfl hu161 rfl ON40 (.t rfl)) ?_
                          refine W.q rfl rfl rfl rfl (by decide) (Yd.mv rfl (.t rfl)) ?_
                          refine W.q rfl rfl rfl rfl (by decide) (Yd.idxM (pos := 1) rfl hu161 hy159 hy163 rfl Try.underlying40 SZ3 (.t rfl) (.t rfl)) ?_
                          refine W.q rfl rfl rfl rfl (by decide) (Yd.ldM (enc := encI) (n := 1) (pos := 1) (fun _ => rfl) rfl hu161 hy159 hy163 rfl rfl ON3 (.t rfl)) ?_
                          refine W.q rfl rfl rfl rfl (by decide) (Yd.lss rfl (.t rfl) .c) ?_
                          refine W.q rfl rfl rfl rfl (by decide) (Yd.mv rfl (.t rfl)) ?_
                          refine W.g rfl rfl rfl rfl rfl (.t rfl _) rfl (by decide) (fun hG => Yd.mv rfl (.t rfl)) ?_
                          refine W.g rfl rfl rfl rfl rfl (.t rfl _) rfl (by decide) (fun hG => Yd.fldB rfl Try.underlying25 rfl SZ22 rfl (.t rfl)) ?_
                          refine W.g rfl rfl rfl rfl rfl (.t rfl _) rfl (by decide) (fun hG => Yd.ldB (pos := 2) rfl rfl rfl ON22 (.g rfl hG)) ?_
                          refine W.g rfl rfl rfl rfl rfl (.t rfl _) rfl (by decide) (fun hG => Yd.mv rfl (.t rfl)) ?_
                          refine W.g rfl rfl rfl rfl rfl (.t rfl _) rfl (by decide) (fun hG => Yd.idxR hm_0_3 (gd_get (d := []) ha164 hG) rfl Try.underlying22 SZ23 (.g rfl hG) (.g rfl hG)) ?_
                          obtain ⟨u165, hu166⟩ := RS.rowD hm_0_3 (i := s_75)
                          refine W.g rfl rfl rfl rfl rfl (.t rfl _) rfl (by decide) (fun hG => Yd.ldRow (hu166 _ (gd_get (d := []) ha164 hG)).2 (.refl _) rfl ON23 (.g rfl hG)) ?_
                          refine W.g rfl rfl rfl rfl rfl (.t rfl _) rfl (by decide) (fun hG => Yd.mv rfl (.t rfl)) ?_
                          refine W.g rfl rfl rfl rfl rfl (.t rfl _) rfl (by decide) (fun hG => Yd.idxR (hu166 _ (gd_get (d := []) ha164 hG)).1 (gd_get (d := []) ha168 hG) rfl Try.underlying23 SZ40 (.g rfl hG) (.g rfl hG)) ?_
                          obtain ⟨u169, hu170⟩ := RS.rowG (G := ((decide (y162 < (0 : Int))) == true)) (fun hG => (hu166 _ (gd_get (d := []) ha164 hG)).1) (i := u_128)
                          refine W.g rfl rfl rfl rfl rfl (.t rfl _) rfl (by decide) (fun hG => Yd.ldRow (hu170 _ (gd_get (d := []) ha168 hG) hG).2 (.refl _) rfl ON40 (.g rfl hG)) ?_
                          refine W.g rfl rfl rfl rfl rfl (.t rfl _) rfl (by decide) (fun hG => Yd.mv rfl (.t rfl)) ?_
                          refine W.g rfl rfl rfl rfl rfl (.t rfl _) rfl (by decide) (fun hG => Yd.idxR (hu170 _ (gd_get (d := []) ha168 hG) hG).1 (gd_get (d := (0 : Int)) ha172 hG) rfl Try.underlying40 SZ3 (.g rfl hG) (.g rfl hG)) ?_
                          refine W.g rfl rfl rfl rfl rfl (.t rfl _) rfl (by decide) (fun hG => Yd.ldF (hu170 _ (gd_get (d := []) ha168 hG) hG).1 (.refl _) (gd_get (d := (0 : Int)) ha172 hG) rfl rfl ON3 (.g rfl hG)) ?_
                          refine W.g rfl rfl rfl rfl rfl (.t rfl _) rfl (by decide) (fun hG => Yd.idxR hu41 (gd_get (d := []) ha173 hG) rfl Try.underlying23 SZ40 (.g rfl hG) (.g rfl hG)) ?_
                          obtain ⟨u174, hu175⟩ := RS.rowD hu41 (i := ((geti (((geti (((geti m_0.next s_75).getD [])) u_128).getD [])) a_149).getD (0 : Int)))
                          refine W.g rfl rfl rfl rfl rfl (.t rfl _) rfl (by decide) (fun hG => Yd.ldRow (hu175 _ (gd_get (d := []) ha173 hG)).2 (.refl _) rfl ON40 (.g rfl hG)) ?_
                          refine W.g rfl rfl rfl rfl rfl (.t rfl _) rfl (by decide) (fun hG => Yd.mv rfl (.t rfl)) ?_
                          refine W.g rfl rfl rfl rfl rfl (.t rfl _) rfl (by decide) (fun hG => Yd.idxR (hu175 _ (gd_get (d := []) ha173 hG)).1 (gd_get (d := (0 : Int)) ha177 hG) rfl Try.underlying40 SZ3 (.g rfl hG) (.g rfl hG)) ?_
                          refine W.g rfl rfl rfl rfl rfl (.t rfl _) rfl (by decide) (fun hG => Yd.ldF (hu175 _ (gd_get (d := []) ha173 hG)).1 (.refl _) (gd_get (d := (0 : Int)) ha177 hG) rfl rfl ON3 (.g rfl hG)) ?_
                          refine W.g rfl rfl rfl rfl rfl (.t rfl _) rfl (by decide) (fun hG => Yd.geq rfl (.g rfl hG) .c) ?_
                          refine W.q rfl rfl rfl rfl (by decide) (Yd.and rfl (.t rfl) .c rfl rfl) ?_
                          refine W.end ?_
                          refine NX.sub (env' := [(1, _), (2, _), (3, _), (7, _), (10, _), (11, _), (12, _), (13, _), (14, _), (15, _), (140, _)]) ⟨rfl, rfl, rfl, rfl, rfl, rfl, rfl, rfl, rfl, rfl, rfl, trivial⟩ ?_
                          refine NX.then ?_
                          refine Tr.cond (.t rfl) (fun hb => ?_) (fun hb => ?_)
                          · have hr := cond_t hb hr
                            obtain ⟨y178, hy179, hr⟩ := bind_some hr
                            obtain ⟨y182, hy183, hr⟩ := bind_some hr
                            refine Tr.region_f (fun i => Nat.beq i 7) ?_
                            refine W.q rfl rfl rfl rfl (by decide) (Yd.mv rfl (.t rfl)) ?_
                            refine W.q rfl rfl rfl rfl (by decide) (Yd.mv rfl (.t rfl)) ?_
                            refine W.q rfl rfl rfl rfl (by decide) (Yd.idxO (pos := 0) (xs := l138) rfl hy179 rfl Try.underlying23 SZ40 (.t rfl) (.t rfl)) ?_
                            obtain ⟨u180, hu181⟩ := us_get hw141 hy179
                            refine W.q rfl rfl rfl rfl (by decide) (Yd.ldU (pos := 0) rfl hu181 rfl ON40 (.t rfl)) ?_
                            refine W.q rfl rfl rfl rfl (by decide) (Yd.mv rfl (.t rfl)) ?_
                            refine W.q rfl rfl rfl rfl (by decide) (Yd.mv rfl (.t rfl)) ?_
                            refine W.q rfl rfl rfl rfl (by decide) (Yd.idxM (pos := 1) rfl hu181 hy179 hy183 rfl Try.underlying40 SZ3 (.t rfl) (.t rfl)) ?_
                            refine W.s rfl rfl rfl rfl (Ef.stM (enc := encI) (n := 1) (pos0 := 0) (pos := 1) (y := k_42) (us' := [_]) (fun _ => rfl) rfl rfl hu181 hy179 hy183 rfl (.t rfl) (.t rfl) SZ3 rfl rfl rfl (by decide)) ?_
                            rintro _ _ ⟨rfl, rfl⟩
                            refine ⟨.inl rfl, ?_⟩
                            refine W.cast (m' := m43) (l' := hown 40 1 v139 _ _ :: hrows 3 1 encI _ _ :: hcells b1 [_, _, _, _, _] 25 :: l) rfl rfl ?_
                            refine W.end ?_
                            refine NX.sub (env' := [(1, _), (2, _), (3, _), (7, _), (10, _), (11, _), (12, _), (13, _), (14, _), (15, _)]) ⟨rfl, rfl, rfl, rfl, rfl, rfl, rfl, rfl, rfl, rfl, trivial⟩ ?_
                            refine NX.block ?_
                            refine NX.then ?_
                            refine Tr.region_f (fun _ => false) ?_
                            refine W.q rfl rfl rfl rfl (by decide) (Yd.mv rfl (.t rfl)) ?_
                            refine W.q rfl rfl rfl rfl (by decide) (Yd.add rfl (.t rfl) .c) ?_
                            refine W.q rfl rfl rfl rfl (by decide) (Yd.as rfl (.t rfl)) ?_
                            refine W.end ?_
                            refine NX.sub (env' := [(1, _), (2, _), (3, _), (7, _), (10, _), (11, _), (12, _), (13, _), (14, _), (15, _)]) ⟨rfl, rfl, rfl, rfl, rfl, rfl, rfl, rfl, rfl, rfl, trivial⟩ ?_
                            refine NX.sub (env' := [(1, _), (2, _), (3, _), (7, _), (10, _), (11, _), (12, _), (13, _), (14, _), (15, _)]) ⟨rfl, rfl, rfl, rfl, rfl, rfl, rfl, rfl, rfl, rfl, trivial⟩ ?_
                            have hw := w64_id (n := a_149 + 1) (by omega) (by omega)
                            exact NX.again n152 (a_149 + 1, (l138.set s_75.toNat (y178.set p_107.toNat k_42))) (Nat.lt_succ_self _) ⟨_, _, (setM hw141), (by rw [hw] <;> rfl), rfl, (fr_dec hna_149), (by omega), ((hnx151 _).symm.trans hr)⟩
                          · have hr := cond_f hb hr
                            refine Tr.skip' ?_
                            refine NX.block ?_
                            refine NX.then ?_
                            refine Tr.region_f (fun _ => false) ?_
                            refine W.q rfl rfl rfl rfl (by decide) (Yd.mv rfl (.t rfl)) ?_
                            refine W.q rfl rfl rfl rfl (by decide) (Yd.add rfl (.t rfl) .c) ?_
                            refine W.q rfl rfl rfl rfl (by decide) (Yd.as rfl (.t rfl)) ?_
                            refine W.end ?_
                            refine NX.sub (env' := [(1, _), (2, _), (3, _), (7, _), (10, _), (11, _), (12, _), (13, _), (14, _), (15, _)]) ⟨rfl, rfl, rfl, rfl, rfl, rfl, rfl, rfl, rfl, rfl, trivial⟩ ?_
                            refine NX.sub (env' := [(1, _), (2, _), (3, _), (7, _), (10, _), (11, _), (12, _), (13, _), (14, _), (15, _)]) ⟨rfl, rfl, rfl, rfl, rfl, rfl, rfl, rfl, rfl, rfl, trivial⟩ ?_
                            have hw := w64_id (n := a_149 + 1) (by omega) (by omega)
                            exact NX.again n152 (a_149 + 1, l138) (Nat.lt_succ_self _) ⟨_, _, hw141, (by rw [hw] <;> rfl), rfl, (fr_dec hna_149), (by omega), ((hnx151 _).symm.trans hr)⟩
                        refine Tr.cond (.t rfl) (fun hb => ?_) (fun hb => ?_)
                        · have hr := cond_t hb hr
                          obtain ⟨y184, hy185, hr⟩ := bind_some hr
                          obtain ⟨y189, hy190, hr⟩ := bind_some hr
                          obtain ⟨y194, hy195, hr⟩ := bind_some hr
                          refine Tr.region_f (fun _ => false) ?_
                          refine W.q rfl rfl rfl rfl (by decide) (Yd.fldB rfl Try.underlying25 rfl SZ22 rfl (.t rfl)) ?_
                          refine W.q rfl rfl rfl rfl (by decide) (Yd.ldB (pos := 2) rfl rfl rfl ON22 (.t rfl)) ?_
                          refine W.q rfl rfl rfl rfl (by decide) (Yd.mv rfl (.t rfl)) ?_
                          refine W.q rfl rfl rfl rfl (by decide) (Yd.idxR hm_0_3 hy185 rfl Try.underlying22 SZ23 (.t rfl) (.t rfl)) ?_
                          obtain ⟨u186, hu187, hat188⟩ := hm_0_3.row hy185
                          refine W.q rfl rfl rfl rfl (by decide) (Yd.ldRow hat188 (.refl _) rfl ON23 (.t rfl)) ?_
                          refine W.q rfl rfl rfl rfl (by decide) (Yd.mv rfl (.t rfl)) ?_
                          refine W.q rfl rfl rfl rfl (by decide) (Yd.idxR hu187 hy190 rfl Try.underlying23 SZ40 (.t rfl) (.t rfl)) ?_
                          obtain ⟨u191, hu192, hat193⟩ := hu187.row hy190
                          refine W.q rfl rfl rfl rfl (by decide) (Yd.ldRow hat193 (.refl _) rfl ON40 (.t rfl)) ?_
                          refine W.q rfl rfl rfl rfl (by decide) (Yd.mv rfl (.t rfl)) ?_
                          refine W.q rfl rfl rfl rfl (by decide) (Yd.idxR hu192 hy195 rfl Try.underlying40 SZ3 (.t rfl) (.t rfl)) ?_
                          refine W.q rfl rfl rfl rfl (by decide) (Yd.ldF hu192 (.refl _) hy195 rfl rfl ON3 (.t rfl)) ?_
                          refine W.q rfl rfl rfl rfl (by decide) (Yd.as rfl (.t rfl)) ?_
                          refine W.end ?_
                          refine NX.sub (env' := [(1, _), (2, _), (3, _), (7, _), (10, _), (11, _), (12, _), (13, _), (14, _), (15, _), (16, _)]) ⟨rfl, rfl, rfl, rfl, rfl, rfl, rfl, rfl, rfl, rfl, rfl, trivial⟩ ?_
                          refine NX.sub (env' := [(1, _), (2, _), (3, _), (7, _), (10, _), (11, _), (12, _), (13, _), (14, _), (15, _), (16, _)]) ⟨rfl, rfl, rfl, rfl, rfl, rfl, rfl, rfl, rfl, rfl, rfl, trivial⟩ ?_
                          exact hk157 _ _ ⟨_, rfl, rfl, hr⟩
                        · have hr := cond_f hb hr
                          refine Tr.skip' ?_
                          refine NX.sub (env' := [(1, _), (2, _), (3, _), (7, _), (10, _), (11, _), (12, _), (13, _), (14, _), (15, _), (16, _)]) ⟨rfl, rfl, rfl, rfl, rfl, rfl, rfl, rfl, rfl, rfl, rfl, trivial⟩ ?_
                          exact hk157 _ _ ⟨_, rfl, rfl, hr⟩
      · have hr := cond_f hb hr
        refine Tr.exit' (EX.then (EX.then (EX.block ?_)))
        refine NX.sub (env' := [(7, _)]) ⟨rfl, trivial⟩ ?_
        refine NX.drop (l' := l) (.cons _ (.refl _)) ?_
        exact hk49 _ _ ⟨_, _, _, hsm43, hu41, rfl, rfl, hr⟩
  obtain ⟨hle196, hr⟩ := guard_some hr; replace hle196 := of_decide_eq_true hle196
  refine Tr.block ?_
  refine Tr.sub (env' := [(1, _), (2, _), (3, _), (7, _), (8, _)]) ⟨rfl, rfl, rfl, rfl, rfl, trivial⟩ ?_
  refine Tr.loop (S := fun n (z : Int × (List (List Int))) env x => match z with | (s_197, l12) => ∃ v13 : Value, ∃ us14 : List Value, us14.length = l12.length ∧ env = [(1, .int .u32 (hidden_1.toNat : Int)), (2, .int .i64 n_2), (3, bp b1 0), (7, v13), (8, .int .i64 s_197)] ∧ x = ⟨m, hown 40 1 v13 l12.length us14 :: hrows 3 1 encI us14 l12 :: hcells b1 [.int .i64 m_0.n, .int .i64 m_0.users, .int .i64 m_0.acts, um_0_3, um_0_4] 25 :: l⟩ ∧ n = (m_0.n - s_197).toNat ∧ 0 ≤ s_197 ∧ forK (σ := (List (List Int))) (fun i s nx_ => syllogistref_LeakIn_b198 m_0 hidden_1 i s nx_) (fun s => syllogistref_LeakIn_k20 m_0 hidden_1 n_2 fuel s) n s_197 l12 = some r) _ ((0 : Int), (List.replicate m_0.n.toNat ([] : List Int))) ⟨_, _, (lenRep : (List.replicate m_0.n.toNat (Value.slice none 0 0)).length = (List.replicate m_0.n.toNat ([] : List Int)).length), rfl, rfl, rfl, (by omega), hr⟩ ?_
  rintro n200 ⟨s_197, l12⟩ env x ⟨v13, us14, hw15, rfl, rfl, hns_197, h0s_197, hr⟩
  cases n200 with
  | zero =>
    simp only [forK] at hr
    refine Tr.seq ?_
    refine Tr.seq ?_
    refine Tr.region_f (fun _ => false) ?_
    refine W.q rfl rfl rfl rfl (by decide) (Yd.mv rfl (.t rfl)) ?_
    refine W.q rfl rfl rfl rfl (by decide) (Yd.fldB rfl Try.underlying25 rfl SZ3 rfl (.t rfl)) ?_
    refine W.q rfl rfl rfl rfl (by decide) (Yd.ldB (pos := 2) rfl rfl rfl ON3 (.t rfl)) ?_
    refine W.q rfl rfl rfl rfl (by decide) (Yd.lss rfl (.t rfl) (.t rfl)) ?_
    refine W.end ?_
    refine NX.sub (env' := [(1, _), (2, _), (3, _), (7, _), (8, _), (23, _)]) ⟨rfl, rfl, rfl, rfl, rfl, rfl, trivial⟩ ?_
    refine NX.then ?_
    refine Tr.cond (.t rfl) (fun hb => ?_) (fun hb => ?_)
    · exact absurd (hb.symm.trans (fr_end hns_197)) (by decide)
    ·
      refine Tr.exit' (EX.then (EX.then (EX.block ?_)))
      refine NX.sub (env' := [(1, _), (2, _), (3, _), (7, _)]) ⟨rfl, rfl, rfl, rfl, trivial⟩ ?_
      exact hk21 _ _ ⟨_, _, _, hw15, rfl, rfl, hr⟩
  | succ n200 =>
    obtain ⟨nx199, hnx199, hr⟩ := forK_succ hr
    try dsimp only at hr
    unfold syllogistref_LeakIn_b198 at hr
    try dsimp only at hr
    have hlts_197 := fr_bnd hns_197
    refine Tr.seq ?_
    refine Tr.seq ?_
    refine Tr.region_f (fun _ => false) ?_
    refine W.q rfl rfl rfl rfl (by decide) (Yd.mv rfl (.t rfl)) ?_
    refine W.q rfl rfl rfl rfl (by decide) (Yd.fldB rfl Try.underlying25 rfl SZ3 rfl (.t rfl)) ?_
    refine W.q rfl rfl rfl rfl (by decide) (Yd.ldB (pos := 2) rfl rfl rfl ON3 (.t rfl)) ?_
    refine W.q rfl rfl rfl rfl (by decide) (Yd.lss rfl (.t rfl) (.t rfl)) ?_
    refine W.end ?_
    refine NX.sub (env' := [(1, _), (2, _), (3, _), (7, _), (8, _), (23, _)]) ⟨rfl, rfl, rfl, rfl, rfl, rfl, trivial⟩ ?_
    refine NX.then ?_
    refine Tr.cond (.t rfl) (fun hb => ?_) (fun hb => ?_)
    rotate_left
    · exact absurd (hb.symm.trans (fr_go hns_197)) (by decide)
    ·
      refine Tr.skip' ?_
      refine NX.then ?_
      refine Tr.seq ?_
      refine Tr.block ?_
      refine Tr.seq ?_
      obtain ⟨hq201, hr⟩ := guard_some hr; replace hq201 := of_decide_eq_true hq201
      obtain ⟨y204, hy205, hr⟩ := bind_some hr
      refine Tr.region_f (fun i => Nat.beq i 4 || Nat.beq i 6) ?_
      refine W.q rfl rfl rfl rfl (by decide) (Yd.mv rfl (.t rfl)) ?_
      refine W.q rfl rfl rfl rfl (by decide) (Yd.mv rfl (.t rfl)) ?_
      refine W.q rfl rfl rfl rfl (by decide) (Yd.fldB rfl Try.underlying25 rfl SZ3 rfl (.t rfl)) ?_
      refine W.q rfl rfl rfl rfl (by decide) (Yd.ldB (pos := 2) rfl rfl rfl ON3 (.t rfl)) ?_
      refine W.e rfl rfl rfl rfl (by decide) (Ef.mkT (enc := encI) (0 : Int) IF3 rfl Try.underlying40 rfl rfl (by decide) (.t rfl) (.t rfl) (by omega) (by omega) (by omega)) ?_
      rintro v202 _ rfl
      refine ⟨.inl rfl, ?_⟩
      refine W.cast (m' := m) (l' := hownT 3 1 encI v202 _ :: hown 40 1 v13 _ _ :: hrows 3 1 encI _ _ :: hcells b1 [_, _, _, _, _] 25 :: l) rfl rfl ?_
      refine W.q rfl rfl rfl rfl (by decide) (Yd.idxO (pos := 1) (xs := l12) rfl hy205 rfl Try.underlying23 SZ40 (.t rfl) (.t rfl)) ?_
      refine W.s rfl rfl rfl rfl (Ef.stR (pos := 1) (pos2 := 0) (xss := l12) ((List.replicate m_0.n.toNat (0 : Int))) rfl rfl hy205 hw15 rfl (.t rfl) (.t rfl) SZ40) ?_
      rintro _ _ ⟨rfl, rfl⟩
      refine ⟨.inl rfl, ?_⟩
      refine W.cast (m' := m) (l' := hownT 3 1 encI v202 _ :: hown 40 1 v13 _ _ :: hrows 3 1 encI _ _ :: hcells b1 [_, _, _, _, _] 25 :: l) rfl rfl ?_
      refine W.end ?_
      refine NX.imp (fun w hw => cX_setM (po := 0) (pr := 1) (i := s_197.toNat) rfl rfl (geti_some hy205).2.2 hw) ?_
      refine NX.cast (m' := m) (l' := hown 40 1 v13 _ _ :: hrows 3 1 encI _ _ :: hcells b1 [_, _, _, _, _] 25 :: l) rfl rfl ?_
      refine NX.sub (env' := [(1, _), (2, _), (3, _), (7, _), (8, _)]) ⟨rfl, rfl, rfl, rfl, rfl, trivial⟩ ?_
      refine NX.then ?_
      refine Tr.seq ?_
      refine Tr.region_f (fun _ => false) ?_
      refine W.q rfl rfl rfl rfl (by decide) (Yd.as rfl .c) ?_
      refine W.end ?_
      refine NX.sub (env' := [(1, _), (2, _), (3, _), (7, _), (8, _), (9, _)]) ⟨rfl, rfl, rfl, rfl, rfl, rfl, trivial⟩ ?_
      refine NX.then ?_
      refine Tr.join (S := fun env x => ∃ l216 : List (List Int), ∃ v217 : Value, ∃ us218 : List Value, us218.length = l216.length ∧ env = [(1, .int .u32 (hidden_1.toNat : Int)), (2, .int .i64 n_2), (3, bp b1 0), (7, v217), (8, .int .i64 s_197)] ∧ x = ⟨m, hown 40 1 v217 l216.length us218 :: hrows 3 1 encI us218 l216 :: hcells b1 [.int .i64 m_0.n, .int .i64 m_0.users, .int .i64 m_0.acts, um_0_3, um_0_4] 25 :: l⟩ ∧ syllogistref_LeakIn_k220 nx199 l216 = some r) ?_ (fun hk221 => ?_)
      · rintro _ _ ⟨l216, v217, us218, hw219, rfl, rfl, hr⟩
        unfold syllogistref_LeakIn_k220 at hr
        try dsimp only at hr
        refine NX.block ?_
        refine NX.then ?_
        refine Tr.region_f (fun _ => false) ?_
        refine W.q rfl rfl rfl rfl (by decide) (Yd.mv rfl (.t rfl)) ?_
        refine W.q rfl rfl rfl rfl (by decide) (Yd.add rfl (.t rfl) .c) ?_
        refine W.q rfl rfl rfl rfl (by decide) (Yd.as rfl (.t rfl)) ?_
        refine W.end ?_
        refine NX.sub (env' := [(1, _), (2, _), (3, _), (7, _), (8, _)]) ⟨rfl, rfl, rfl, rfl, rfl, trivial⟩ ?_
        refine NX.sub (env' := [(1, _), (2, _), (3, _), (7, _), (8, _)]) ⟨rfl, rfl, rfl, rfl, rfl, trivial⟩ ?_
        have hw := w64_id (n := s_197 + 1) (by omega) (by omega)
        exact NX.again n200 (s_197 + 1, l216) (Nat.lt_succ_self _) ⟨_, _, hw219, (by rw [hw] <;> rfl), rfl, (fr_dec hns_197), (by omega), ((hnx199 _).symm.trans hr)⟩
      obtain ⟨hle222, hr⟩ := guard_some hr; replace hle222 := of_decide_eq_true hle222
      refine Tr.block ?_
      refine Tr.sub (env' := [(1, _), (2, _), (3, _), (7, _), (8, _), (9, _)]) ⟨rfl, rfl, rfl, rfl, rfl, rfl, trivial⟩ ?_
      refine Tr.loop (S := fun n (z : Int × (List (List Int))) env x => match z with | (p_223, l212) => ∃ v213 : Value, ∃ us214 : List Value, us214.length = l212.length ∧ env = [(1, .int .u32 (hidden_1.toNat : Int)), (2, .int .i64 n_2), (3, bp b1 0), (7, v213), (8, .int .i64 s_197), (9, .int .i64 p_223)] ∧ x = ⟨m, hown 40 1 v213 l212.length us214 :: hrows 3 1 encI us214 l212 :: hcells b1 [.int .i64 m_0.n, .int .i64 m_0.users, .int .i64 m_0.acts, um_0_3, um_0_4] 25 :: l⟩ ∧ n = (m_0.n - p_223).toNat ∧ 0 ≤ p_223 ∧ forK (σ := (List (List Int))) (fun i s nx_ => syllogistref_LeakIn_b224 m_0 hidden_1 s_197 i s nx_) (fun s => syllogistref_LeakIn_k220 nx199 s) n p_223 l212 = some r) _ ((0 : Int), (l12.set s_197.toNat ((List.replicate m_0.n.toNat (0 : Int))))) ⟨_, _, (lenSet hw15), rfl, rfl, rfl, (by omega), hr⟩ ?_
      rintro n226 ⟨p_223, l212⟩ env x ⟨v213, us214, hw215, rfl, rfl, hnp_223, h0p_223, hr⟩
      cases n226 with
      | zero =>
        simp only [forK] at hr
        refine Tr.seq ?_
        refine Tr.seq ?_
        refine Tr.region_f (fun _ => false) ?_
        refine W.q rfl rfl rfl rfl (by decide) (Yd.mv rfl (.t rfl)) ?_
        refine W.q rfl rfl rfl rfl (by decide) (Yd.fldB rfl Try.underlying25 rfl SZ3 rfl (.t rfl)) ?_
        refine W.q rfl rfl rfl rfl (by decide) (Yd.ldB (pos := 2) rfl rfl rfl ON3 (.t rfl)) ?_
        refine W.q rfl rfl rfl rfl (by decide) (Yd.lss rfl (.t rfl) (.t rfl)) ?_
        refine W.end ?_
        refine NX.sub (env' := [(1, _), (2, _), (3, _), (7, _), (8, _), (9, _), (35, _)]) ⟨rfl, rfl, rfl, rfl, rfl, rfl, rfl, trivial⟩ ?_
        refine NX.then ?_
        refine Tr.cond (.t rfl) (fun hb => ?_) (fun hb => ?_)
        · exact absurd (hb.symm.trans (fr_end hnp_223)) (by decide)
        ·
          refine Tr.exit' (EX.then (EX.then (EX.block ?_)))
          refine NX.sub (env' := [(1, _), (2, _), (3, _), (7, _), (8, _)]) ⟨rfl, rfl, rfl, rfl, rfl, trivial⟩ ?_
          exact hk221 _ _ ⟨_, _, _, hw215, rfl, rfl, hr⟩
      | succ n226 =>
        obtain ⟨nx225, hnx225, hr⟩ := forK_succ hr
        try dsimp only at hr
        unfold syllogistref_LeakIn_b224 at hr
        try dsimp only at hr
        have hltp_223 := fr_bnd hnp_223
        refine Tr.seq ?_
        refine Tr.seq ?_
        refine Tr.region_f (fun _ => false) ?_
        refine W.q rfl rfl rfl rfl (by decide) (Yd.mv rfl (.t rfl)) ?_
        refine W.q rfl rfl rfl rfl (by decide) (Yd.fldB rfl Try.underlying25 rfl SZ3 rfl (.t rfl)) ?_
        refine W.q rfl rfl rfl rfl (by decide) (Yd.ldB (pos := 2) rfl rfl rfl ON3 (.t rfl)) ?_
        refine W.q rfl rfl rfl rfl (by decide) (Yd.lss rfl (.t rfl) (.t rfl)) ?_
        refine W.end ?_
        refine NX.sub (env' := [(1, _), (2, _), (3, _), (7, _), (8, _), (9, _), (35, _)]) ⟨rfl, rfl, rfl, rfl, rfl, rfl, rfl, trivial⟩ ?_
        refine NX.then ?_
        refine Tr.cond (.t rfl) (fun hb => ?_) (fun hb => ?_)
        rotate_left
        · exact absurd (hb.symm.trans (fr_go hnp_223)) (by decide)
        ·
          refine Tr.skip' ?_
          refine NX.then ?_
          refine Tr.seq ?_
          refine Tr.block ?_
          refine Tr.seq ?_
          obtain ⟨y227, hy228, hr⟩ := bind_some hr
          obtain ⟨y231, hy232, hr⟩ := bind_some hr
          refine Tr.region_f (fun i => Nat.beq i 6) ?_
          refine W.q rfl rfl rfl rfl (by decide) (Yd.mv rfl (.t rfl)) ?_
          refine W.q rfl rfl rfl rfl (by decide) (Yd.mv rfl (.t rfl)) ?_
          refine W.q rfl rfl rfl rfl (by decide) (Yd.idxO (pos := 0) (xs := l212) rfl hy228 rfl Try.underlying23 SZ40 (.t rfl) (.t rfl)) ?_
          obtain ⟨u229, hu230⟩ := us_get hw215 hy228
          refine W.q rfl rfl rfl rfl (by decide) (Yd.ldU (pos := 0) rfl hu230 rfl ON40 (.t rfl)) ?_
          refine W.q rfl rfl rfl rfl (by decide) (Yd.mv rfl (.t rfl)) ?_
          refine W.q rfl rfl rfl rfl (by decide) (Yd.idxM (pos := 1) rfl hu230 hy228 hy232 rfl Try.underlying40 SZ3 (.t rfl) (.t rfl)) ?_
          refine W.s rfl rfl rfl rfl (Ef.stM (enc := encI) (n := 1) (pos0 := 0) (pos := 1) (y := (-1 : Int)) (us' := [_]) (fun _ => rfl) rfl rfl hu230 hy228 hy232 rfl (.t rfl) .c SZ3 rfl rfl rfl (by decide)) ?_
          rintro _ _ ⟨rfl, rfl⟩
          refine ⟨.inl rfl, ?_⟩
          refine W.cast (m' := m) (l' := hown 40 1 v213 _ _ :: hrows 3 1 encI _ _ :: hcells b1 [_, _, _, _, _] 25 :: l) rfl rfl ?_
          refine W.end ?_
          refine NX.sub (env' := [(1, _), (2, _), (3, _), (7, _), (8, _), (9, _)]) ⟨rfl, rfl, rfl, rfl, rfl, rfl, trivial⟩ ?_
          refine NX.then ?_
          refine Tr.seq ?_
          obtain ⟨r233, hr234, hr⟩ := bind_some hr
          refine Tr.region_f (fun _ => false) ?_
          refine W.q rfl rfl rfl rfl (by decide) (Yd.ldBs (pos := 2) (us := [_, _, _, _, _]) rfl rfl rfl rfl ON25 US25 SZ25 (.t rfl)) ?_
          refine W.q rfl rfl rfl rfl (by decide) (Yd.mv rfl (.t rfl)) ?_
          refine W.q rfl rfl rfl rfl (by decide) (Yd.mv rfl (.t rfl)) ?_
          refine W.q rfl rfl rfl rfl (by decide) (Yd.mv rfl (.t rfl)) ?_
          refine W.q rfl rfl rfl rfl (by decide) (Yd.call (v := .bool r233) rfl Try.func16 rfl rfl (.cons (.t rfl) (.cons (.t rfl) (.cons (.t rfl) (.cons (.t rfl) .nil)))) (fun x' hx w hw => syllogistref_Sees_ok w0 x'.m x'.l _ _ (hm_0_3.mono hx.1) _ (hm_0_4.mono hx.1) hidden_1 s_197 p_223 _ hr234 w hw)) ?_
          refine W.q rfl rfl rfl rfl (by decide) (Yd.not rfl (.t rfl)) ?_
          refine W.end ?_
          refine NX.sub (env' := [(1, _), (2, _), (3, _), (7, _), (8, _), (9, _), (49, _)]) ⟨rfl, rfl, rfl, rfl, rfl, rfl, rfl, trivial⟩ ?_
          refine NX.then ?_
          refine Tr.cond (.t rfl) (fun hb => ?_) (fun hb => ?_)
          · have hr := cond_t hb hr
            obtain ⟨y235, hy236, hr⟩ := bind_some hr
            obtain ⟨y239, hy240, hr⟩ := bind_some hr
            refine Tr.region_f (fun i => Nat.beq i 6) ?_
            refine W.q rfl rfl rfl rfl (by decide) (Yd.mv rfl (.t rfl)) ?_
            refine W.q rfl rfl rfl rfl (by decide) (Yd.mv rfl (.t rfl)) ?_
            refine W.q rfl rfl rfl rfl (by decide) (Yd.idxO (pos := 0) (xs := (l212.set s_197.toNat (y227.set p_223.toNat ((-1 : Int))))) rfl hy236 rfl Try.underlying23 SZ40 (.t rfl) (.t rfl)) ?_
            obtain ⟨u237, hu238⟩ := us_get (setM hw215) hy236
            refine W.q rfl rfl rfl rfl (by decide) (Yd.ldU (pos := 0) rfl hu238 rfl ON40 (.t rfl)) ?_
            refine W.q rfl rfl rfl rfl (by decide) (Yd.mv rfl (.t rfl)) ?_
            refine W.q rfl rfl rfl rfl (by decide) (Yd.idxM (pos := 1) rfl hu238 hy236 hy240 rfl Try.underlying40 SZ3 (.t rfl) (.t rfl)) ?_
            refine W.s rfl rfl rfl rfl (Ef.stM (enc := encI) (n := 1) (pos0 := 0) (pos := 1) (y := (0 : Int)) (us' := [_]) (fun _ => rfl) rfl rfl hu238 hy236 hy240 rfl (.t rfl) .c SZ3 rfl rfl rfl (by decide)) ?_
            rintro _ _ ⟨rfl, rfl⟩
            refine ⟨.inl rfl, ?_⟩
            refine W.cast (m' := m) (l' := hown 40 1 v213 _ _ :: hrows 3 1 encI _ _ :: hcells b1 [_, _, _, _, _] 25 :: l) rfl rfl ?_
            refine W.end ?_
            refine NX.sub (env' := [(1, _), (2, _), (3, _), (7, _), (8, _), (9, _)]) ⟨rfl, rfl, rfl, rfl, rfl, rfl, trivial⟩ ?_
            refine NX.block ?_
            refine NX.then ?_
            refine Tr.region_f (fun _ => false) ?_
            refine W.q rfl rfl rfl rfl (by decide) (Yd.mv rfl (.t rfl)) ?_
            refine W.q rfl rfl rfl rfl (by decide) (Yd.add rfl (.t rfl) .c) ?_
            refine W.q rfl rfl rfl rfl (by decide) (Yd.as rfl (.t rfl)) ?_
            refine W.end ?_
            refine NX.sub (env' := [(1, _), (2, _), (3, _), (7, _), (8, _), (9, _)]) ⟨rfl, rfl, rfl, rfl, rfl, rfl, trivial⟩ ?_
            refine NX.sub (env' := [(1, _), (2, _), (3, _), (7, _), (8, _), (9, _)]) ⟨rfl, rfl, rfl, rfl, rfl, rfl, trivial⟩ ?_
            have hw := w64_id (n := p_223 + 1) (by omega) (by omega)
            exact NX.again n226 (p_223 + 1, (((l212.set s_197.toNat (y227.set p_223.toNat ((-1 : Int))))).set s_197.toNat (y235.set p_223.toNat ((0 : Int))))) (Nat.lt_succ_self _) ⟨_, _, (setM (setM hw215)), (by rw [hw] <;> rfl), rfl, (fr_dec hnp_223), (by omega), ((hnx225 _).symm.trans hr)⟩
          · have hr := cond_f hb hr
            refine Tr.skip' ?_
            refine NX.block ?_
            refine NX.then ?_
            refine Tr.region_f (fun _ => false) ?_
            refine W.q rfl rfl rfl rfl (by decide) (Yd.mv rfl (.t rfl)) ?_
            refine W.q rfl rfl rfl rfl (by decide) (Yd.add rfl (.t rfl) .c) ?_
            refine W.q rfl rfl rfl rfl (by decide) (Yd.as rfl (.t rfl)) ?_
            refine W.end ?_
            refine NX.sub (env' := [(1, _), (2, _), (3, _), (7, _), (8, _), (9, _)]) ⟨rfl, rfl, rfl, rfl, rfl, rfl, trivial⟩ ?_
            refine NX.sub (env' := [(1, _), (2, _), (3, _), (7, _), (8, _), (9, _)]) ⟨rfl, rfl, rfl, rfl, rfl, rfl, trivial⟩ ?_
            have hw := w64_id (n := p_223 + 1) (by omega) (by omega)
            exact NX.again n226 (p_223 + 1, (l212.set s_197.toNat (y227.set p_223.toNat ((-1 : Int))))) (Nat.lt_succ_self _) ⟨_, _, (setM hw215), (by rw [hw] <;> rfl), rfl, (fr_dec hnp_223), (by omega), ((hnx225 _).symm.trans hr)⟩

def syllogistref_step_k11 (s_3 : Int) (p_4 : Int) (l9 : List Act) : Option (Int × Int × (List Act)) :=
  some ((s_3, p_4, l9))

def syllogistref_step_k26 (nx16 : ((List Act) → Option (Int × Int × (List Act)))) (l24 : List Act) : Option (Int × Int × (List Act)) :=
  nx16 l24

def syllogistref_step_k36 (m_0 : Machine) (t_2 : List (List Int)) (s_3 : Int) (p_4 : Int) (u_14 : Int) (a_29 : Int) (l22 : List Act) (nx31 : ((List Act) → Option (Int × Int × (List Act)))) (q_35 : Int) : Option (Int × Int × (List Act)) :=
  (geti m_0.next s_3).bind fun y38 =>
  (geti y38 u_14).bind fun y43 =>
  (geti y43 a_29).bind fun y48 =>
  (geti t_2 y48).bind fun y50 =>
  (geti y50 q_35).bind fun y55 =>
  (geti t_2 s_3).bind fun y57 =>
  (geti y57 p_4).bind fun y62 =>
  (bif (y55 == (w64 (y62 - (1 : Int)))) then
  (geti m_0.next s_3).bind fun y64 =>
  (geti y64 u_14).bind fun y69 =>
  (geti y69 a_29).bind fun y74 =>
  bif decide (l22.length + (([({ user := u_14, act := a_29 } : Act)] : List Act)).length ≤ 8796093022208) then
  some ((y74, q_35, (l22 ++ ([({ user := u_14, act := a_29 } : Act)] : List Act)))) else none
  else
  nx31 l22)

def syllogistref_step_b30 (m_0 : Machine) (hidden_1 : (BitVec 32)) (t_2 : List (List Int)) (s_3 : Int) (p_4 : Int) (u_14 : Int) (a_29 : Int) (l22 : List Act) (nx31 : (List Act) → Option (Int × Int × (List Act))) : Option (Int × Int × (List Act)) :=
  (syllogistref_Bit hidden_1 u_14).bind fun r33 =>
  (bif (!r33) then
  (geti m_0.next p_4).bind fun y89 =>
  (geti y89 u_14).bind fun y94 =>
  (geti y94 a_29).bind fun y99 =>
  syllogistref_step_k36 m_0 t_2 s_3 p_4 u_14 a_29 l22 nx31 y99
  else
  syllogistref_step_k36 m_0 t_2 s_3 p_4 u_14 a_29 l22 nx31 p_4)

def syllogistref_step_b15 (m_0 : Machine) (hidden_1 : (BitVec 32)) (t_2 : List (List Int)) (s_3 : Int) (p_4 : Int) (u_14 : Int) (l7 : List Act) (nx16 : (List Act) → Option (Int × Int × (List Act))) : Option (Int × Int × (List Act)) :=
  bif decide (m_0.acts ≤ 9223372036854775807) then
  forK (σ := (List Act)) (fun i s nx_ => syllogistref_step_b30 m_0 hidden_1 t_2 s_3 p_4 u_14 i s nx_) (fun s => syllogistref_step_k26 nx16 s) (m_0.acts - (0 : Int)).toNat (0 : Int) l7 else none

def syllogistref_step (m_0 : Machine) (hidden_1 : (BitVec 32)) (t_2 : List (List Int)) (s_3 : Int) (p_4 : Int) (word_5 : List Act) : Option (Int × Int × (List Act)) :=
  bif decide (m_0.users ≤ 9223372036854775807) then
  forK (σ := (List Act)) (fun i s nx_ => syllogistref_step_b15 m_0 hidden_1 t_2 s_3 p_4 i s nx_) (fun s => syllogistref_step_k11 s_3 p_4 s) (m_0.users - (0 : Int)).toNat (0 : Int) word_5 else none

set_option maxRecDepth 100000 in
set_option maxHeartbeats 4000000 in
theorem syllogistref_step_ok (w0 : World) (m : Snap) (l : List HI) (m_0 : Machine) (um_0_3 : Value) (hm_0_3 : RS (Rp.slice (Rp.slice rI)) m um_0_3 m_0.next) (um_0_4 : Value) (hm_0_4 : RS (Rp.slice rI) m um_0_4 m_0.sees) (hidden_1 : (BitVec 32)) (ut_2 : Value) (t_2 : List (List Int)) (ht_2 : RS (Rp.slice rI) m ut_2 t_2) (s_3 : Int) (p_4 : Int) (uword_5 : Value) (word_5 : List Act) (r : Int × Int × (List Act)) (hr : syllogistref_step m_0 hidden_1 t_2 s_3 p_4 word_5 = some r) (w : World) (hc : cX w0 ⟨m, hownT 43 2 Act.enc uword_5 word_5 :: l⟩ w) :
    Calls Try.prog 14 [.agg #[.int .i64 m_0.n, .int .i64 m_0.users, .int .i64 m_0.acts, um_0_3, um_0_4], .int .u32 (hidden_1.toNat : Int), ut_2, .int .i64 s_3, .int .i64 p_4, uword_5].toArray w fun e w' => ∃ z0 : Value, e = .returned (.tuple #[.int .i64 r.1, .int .i64 r.2.1, z0]) ∧ cX w0 ⟨m, hownT 43 2 Act.enc z0 r.2.2 :: l⟩ w' := by
  unfold syllogistref_step at hr
  refine calls_of_Tr (N := 93) Try.func14 rfl hc rfl (Nat.le_of_ble_eq_true rfl) ?_
  refine Tr.seq ?_
  refine Tr.region_f (fun i => Nat.beq i 0) ?_
  refine W.e rfl rfl rfl rfl (by decide) (Ef.bx rfl (.t rfl) rfl) ?_
  rintro _ _ ⟨b1, rfl, rfl⟩
  refine ⟨.inl rfl, ?_⟩
  refine W.cast (m' := m) (l' := hcells b1 [_, _, _, _, _] 25 :: hownT 43 2 Act.enc uword_5 _ :: l) rfl rfl ?_
  refine W.q rfl rfl rfl rfl (by decide) (Yd.as rfl .c) ?_
  refine W.q rfl rfl rfl rfl (by decide) (Yd.as rfl .c) ?_
  refine W.q rfl rfl rfl rfl (by decide) (Yd.as rfl .c) ?_
  refine W.end ?_
  refine NX.sub (env' := [(1, _), (2, _), (3, _), (4, _), (5, _), (6, _)]) ⟨rfl, rfl, rfl, rfl, rfl, rfl, trivial⟩ ?_
  refine NX.then ?_
  refine Tr.seq ?_
  refine Tr.seq ?_
  refine Tr.region_f (fun _ => false) ?_
  refine W.q rfl rfl rfl rfl (by decide) (Yd.as rfl .c) ?_
  refine W.end ?_
  refine NX.sub (env' := [(1, _), (2, _), (3, _), (4, _), (5, _), (6, _), (15, _)]) ⟨rfl, rfl, rfl, rfl, rfl, rfl, rfl, trivial⟩ ?_
  refine NX.then ?_
  refine Tr.join (S := fun env x => ∃ l9 : List Act, ∃ v10 : Value, env = [(3, .int .i64 s_3), (4, .int .i64 p_4), (5, v10)] ∧ x = ⟨m, hownT 43 2 Act.enc v10 l9 :: l⟩ ∧ syllogistref_step_k11 s_3 p_4 l9 = some r) ?_ (fun hk12 => ?_)
  · rintro _ _ ⟨l9, v10, rfl, rfl, hr⟩
    unfold syllogistref_step_k11 at hr
    try dsimp only at hr
    refine NX.then ?_
    refine Tr.seq ?_
    refine Tr.region_f (fun _ => false) ?_
    refine W.q rfl rfl rfl rfl (by decide) (Yd.mv rfl (.t rfl)) ?_
    refine W.q rfl rfl rfl rfl (by decide) (Yd.mv rfl (.t rfl)) ?_
    refine W.q rfl rfl rfl rfl (by decide) (Yd.mv rfl (.t rfl)) ?_
    refine W.q rfl rfl rfl rfl (by decide) (Yd.as rfl (.t rfl)) ?_
    refine W.q rfl rfl rfl rfl (by decide) (Yd.as rfl (.t rfl)) ?_
    refine W.q rfl rfl rfl rfl (by decide) (Yd.as rfl (.t rfl)) ?_
    refine W.end ?_
    refine NX.sub (env' := [(12, _), (13, _), (14, _)]) ⟨rfl, rfl, rfl, trivial⟩ ?_
    refine NX.then ?_
    refine Tr.ret' ?_
    refine res3 rfl rfl rfl rfl ?_
    intro w hc
    cases hr
    exact ⟨_, rfl, hc⟩
  obtain ⟨hle13, hr⟩ := guard_some hr; replace hle13 := of_decide_eq_true hle13
  refine Tr.block ?_
  refine Tr.sub (env' := [(1, _), (2, _), (3, _), (4, _), (5, _), (6, _), (15, _)]) ⟨rfl, rfl, rfl, rfl, rfl, rfl, rfl, trivial⟩ ?_
  refine Tr.loop (S := fun n (z : Int × (List Act)) env x => match z with | (u_14, l7) => ∃ v8 : Value, env = [(1, .int .u32 (hidden_1.toNat : Int)), (2, ut_2), (3, .int .i64 s_3), (4, .int .i64 p_4), (5, v8), (6, bp b1 0), (15, .int .i64 u_14)] ∧ x = ⟨m, hcells b1 [.int .i64 m_0.n, .int .i64 m_0.users, .int .i64 m_0.acts, um_0_3, um_0_4] 25 :: hownT 43 2 Act.enc v8 l7 :: l⟩ ∧ n = (m_0.users - u_14).toNat ∧ 0 ≤ u_14 ∧ forK (σ := (List Act)) (fun i s nx_ => syllogistref_step_b15 m_0 hidden_1 t_2 s_3 p_4 i s nx_) (fun s => syllogistref_step_k11 s_3 p_4 s) n u_14 l7 = some r) _ ((0 : Int), word_5) ⟨_, rfl, rfl, rfl, (by omega), hr⟩ ?_
  rintro n17 ⟨u_14, l7⟩ env x ⟨v8, rfl, rfl, hnu_14, h0u_14, hr⟩
  cases n17 with
  | zero =>
    simp only [forK] at hr
    refine Tr.seq ?_
    refine Tr.seq ?_
    refine Tr.region_f (fun _ => false) ?_
    refine W.q rfl rfl rfl rfl (by decide) (Yd.mv rfl (.t rfl)) ?_
    refine W.q rfl rfl rfl rfl (by decide) (Yd.fldB rfl Try.underlying25 rfl SZ3 rfl (.t rfl)) ?_
    refine W.q rfl rfl rfl rfl (by decide) (Yd.ldB (pos := 0) rfl rfl rfl ON3 (.t rfl)) ?_
    refine W.q rfl rfl rfl rfl (by decide) (Yd.lss rfl (.t rfl) (.t rfl)) ?_
    refine W.end ?_
    refine NX.sub (env' := [(1, _), (2, _), (3, _), (4, _), (5, _), (6, _), (15, _), (21, _)]) ⟨rfl, rfl, rfl, rfl, rfl, rfl, rfl, rfl, trivial⟩ ?_
    refine NX.then ?_
    refine Tr.cond (.t rfl) (fun hb => ?_) (fun hb => ?_)
    · exact absurd (hb.symm.trans (fr_end hnu_14)) (by decide)
    ·
      refine Tr.exit' (EX.then (EX.then (EX.block ?_)))
      refine NX.sub (env' := [(3, _), (4, _), (5, _)]) ⟨rfl, rfl, rfl, trivial⟩ ?_
      refine NX.drop (l' := hownT 43 2 Act.enc v8 _ :: l) (.cons _ (.cons_cons _ (.refl _))) ?_
      exact hk12 _ _ ⟨_, _, rfl, rfl, hr⟩
  | succ n17 =>
    obtain ⟨nx16, hnx16, hr⟩ := forK_succ hr
    try dsimp only at hr
    unfold syllogistref_step_b15 at hr
    try dsimp only at hr
    have hltu_14 := fr_bnd hnu_14
    refine Tr.seq ?_
    refine Tr.seq ?_
    refine Tr.region_f (fun _ => false) ?_
    refine W.q rfl rfl rfl rfl (by decide) (Yd.mv rfl (.t rfl)) ?_
    refine W.q rfl rfl rfl rfl (by decide) (Yd.fldB rfl Try.underlying25 rfl SZ3 rfl (.t rfl)) ?_
    refine W.q rfl rfl rfl rfl (by decide) (Yd.ldB (pos := 0) rfl rfl rfl ON3 (.t rfl)) ?_
    refine W.q rfl rfl rfl rfl (by decide) (Yd.lss rfl (.t rfl) (.t rfl)) ?_
    refine W.end ?_
    refine NX.sub (env' := [(1, _), (2, _), (3, _), (4, _), (5, _), (6, _), (15, _), (21, _)]) ⟨rfl, rfl, rfl, rfl, rfl, rfl, rfl, rfl, trivial⟩ ?_
    refine NX.then ?_
    refine Tr.cond (.t rfl) (fun hb => ?_) (fun hb => ?_)
    rotate_left
    · exact absurd (hb.symm.trans (fr_go hnu_14)) (by decide)
    ·
      refine Tr.skip' ?_
      refine NX.then ?_
      refine Tr.seq ?_
      refine Tr.block ?_
      refine Tr.seq ?_
      refine Tr.region_f (fun _ => false) ?_
      refine W.q rfl rfl rfl rfl (by decide) (Yd.as rfl .c) ?_
      refine W.end ?_
      refine NX.sub (env' := [(1, _), (2, _), (3, _), (4, _), (5, _), (6, _), (15, _), (16, _)]) ⟨rfl, rfl, rfl, rfl, rfl, rfl, rfl, rfl, trivial⟩ ?_
      refine NX.then ?_
      refine Tr.join (S := fun env x => ∃ l24 : List Act, ∃ v25 : Value, env = [(1, .int .u32 (hidden_1.toNat : Int)), (2, ut_2), (3, .int .i64 s_3), (4, .int .i64 p_4), (5, v25), (6, bp b1 0), (15, .int .i64 u_14)] ∧ x = ⟨m, hcells b1 [.int .i64 m_0.n, .int .i64 m_0.users, .int .i64 m_0.acts, um_0_3, um_0_4] 25 :: hownT 43 2 Act.enc v25 l24 :: l⟩ ∧ syllogistref_step_k26 nx16 l24 = some r) ?_ (fun hk27 => ?_)
      · rintro _ _ ⟨l24, v25, rfl, rfl, hr⟩
        unfold syllogistref_step_k26 at hr
        try dsimp only at hr
        refine NX.block ?_
        refine NX.then ?_
        refine Tr.region_f (fun _ => false) ?_
        refine W.q rfl rfl rfl rfl (by decide) (Yd.mv rfl (.t rfl)) ?_
        refine W.q rfl rfl rfl rfl (by decide) (Yd.add rfl (.t rfl) .c) ?_
        refine W.q rfl rfl rfl rfl (by decide) (Yd.as rfl (.t rfl)) ?_
        refine W.end ?_
        refine NX.sub (env' := [(1, _), (2, _), (3, _), (4, _), (5, _), (6, _), (15, _)]) ⟨rfl, rfl, rfl, rfl, rfl, rfl, rfl, trivial⟩ ?_
        refine NX.sub (env' := [(1, _), (2, _), (3, _), (4, _), (5, _), (6, _), (15, _)]) ⟨rfl, rfl, rfl, rfl, rfl, rfl, rfl, trivial⟩ ?_
        have hw := w64_id (n := u_14 + 1) (by omega) (by omega)
        exact NX.again n17 (u_14 + 1, l24) (Nat.lt_succ_self _) ⟨_, (by rw [hw] <;> rfl), rfl, (fr_dec hnu_14), (by omega), ((hnx16 _).symm.trans hr)⟩
      obtain ⟨hle28, hr⟩ := guard_some hr; replace hle28 := of_decide_eq_true hle28
      refine Tr.block ?_
      refine Tr.sub (env' := [(1, _), (2, _), (3, _), (4, _), (5, _), (6, _), (15, _), (16, _)]) ⟨rfl, rfl, rfl, rfl, rfl, rfl, rfl, rfl, trivial⟩ ?_
      refine Tr.loop (S := fun n (z : Int × (List Act)) env x => match z with | (a_29, l22) => ∃ v23 : Value, env = [(1, .int .u32 (hidden_1.toNat : Int)), (2, ut_2), (3, .int .i64 s_3), (4, .int .i64 p_4), (5, v23), (6, bp b1 0), (15, .int .i64 u_14), (16, .int .i64 a_29)] ∧ x = ⟨m, hcells b1 [.int .i64 m_0.n, .int .i64 m_0.users, .int .i64 m_0.acts, um_0_3, um_0_4] 25 :: hownT 43 2 Act.enc v23 l22 :: l⟩ ∧ n = (m_0.acts - a_29).toNat ∧ 0 ≤ a_29 ∧ forK (σ := (List Act)) (fun i s nx_ => syllogistref_step_b30 m_0 hidden_1 t_2 s_3 p_4 u_14 i s nx_) (fun s => syllogistref_step_k26 nx16 s) n a_29 l22 = some r) _ ((0 : Int), l7) ⟨_, rfl, rfl, rfl, (by omega), hr⟩ ?_
      rintro n32 ⟨a_29, l22⟩ env x ⟨v23, rfl, rfl, hna_29, h0a_29, hr⟩
      cases n32 with
      | zero =>
        simp only [forK] at hr
        refine Tr.seq ?_
        refine Tr.seq ?_
        refine Tr.region_f (fun _ => false) ?_
        refine W.q rfl rfl rfl rfl (by decide) (Yd.mv rfl (.t rfl)) ?_
        refine W.q rfl rfl rfl rfl (by decide) (Yd.fldB rfl Try.underlying25 rfl SZ3 rfl (.t rfl)) ?_
        refine W.q rfl rfl rfl rfl (by decide) (Yd.ldB (pos := 0) rfl rfl rfl ON3 (.t rfl)) ?_
        refine W.q rfl rfl rfl rfl (by decide) (Yd.lss rfl (.t rfl) (.t rfl)) ?_
        refine W.end ?_
        refine NX.sub (env' := [(1, _), (2, _), (3, _), (4, _), (5, _), (6, _), (15, _), (16, _), (27, _)]) ⟨rfl, rfl, rfl, rfl, rfl, rfl, rfl, rfl, rfl, trivial⟩ ?_
        refine NX.then ?_
        refine Tr.cond (.t rfl) (fun hb => ?_) (fun hb => ?_)
        · exact absurd (hb.symm.trans (fr_end hna_29)) (by decide)
        ·
          refine Tr.exit' (EX.then (EX.then (EX.block ?_)))
          refine NX.sub (env' := [(1, _), (2, _), (3, _), (4, _), (5, _), (6, _), (15, _)]) ⟨rfl, rfl, rfl, rfl, rfl, rfl, rfl, trivial⟩ ?_
          exact hk27 _ _ ⟨_, _, rfl, rfl, hr⟩
      | succ n32 =>
        obtain ⟨nx31, hnx31, hr⟩ := forK_succ hr
        try dsimp only at hr
        unfold syllogistref_step_b30 at hr
        try dsimp only at hr
        have hlta_29 := fr_bnd hna_29
        refine Tr.seq ?_
        refine Tr.seq ?_
        refine Tr.region_f (fun _ => false) ?_
        refine W.q rfl rfl rfl rfl (by decide) (Yd.mv rfl (.t rfl)) ?_
        refine W.q rfl rfl rfl rfl (by decide) (Yd.fldB rfl Try.underlying25 rfl SZ3 rfl (.t rfl)) ?_
        refine W.q rfl rfl rfl rfl (by decide) (Yd.ldB (pos := 0) rfl rfl rfl ON3 (.t rfl)) ?_
        refine W.q rfl rfl rfl rfl (by decide) (Yd.lss rfl (.t rfl) (.t rfl)) ?_
        refine W.end ?_
        refine NX.sub (env' := [(1, _), (2, _), (3, _), (4, _), (5, _), (6, _), (15, _), (16, _), (27, _)]) ⟨rfl, rfl, rfl, rfl, rfl, rfl, rfl, rfl, rfl, trivial⟩ ?_
        refine NX.then ?_
        refine Tr.cond (.t rfl) (fun hb => ?_) (fun hb => ?_)
        rotate_left
        · exact absurd (hb.symm.trans (fr_go hna_29)) (by decide)
        ·
          refine Tr.skip' ?_
          refine NX.then ?_
          refine Tr.seq ?_
          refine Tr.block ?_
          refine Tr.seq ?_
          refine Tr.region_f (fun _ => false) ?_
          refine W.q rfl rfl rfl rfl (by decide) (Yd.mv rfl (.t rfl)) ?_
          refine W.q rfl rfl rfl rfl (by decide) (Yd.as rfl (.t rfl)) ?_
          refine W.end ?_
          refine NX.sub (env' := [(1, _), (2, _), (3, _), (4, _), (5, _), (6, _), (15, _), (16, _), (17, _)]) ⟨rfl, rfl, rfl, rfl, rfl, rfl, rfl, rfl, rfl, trivial⟩ ?_
          refine NX.then ?_
          refine Tr.seq ?_
          refine Tr.seq ?_
          obtain ⟨r33, hr34, hr⟩ := bind_some hr
          refine Tr.region_f (fun _ => false) ?_
          refine W.q rfl rfl rfl rfl (by decide) (Yd.mv rfl (.t rfl)) ?_
          refine W.q rfl rfl rfl rfl (by decide) (Yd.mv rfl (.t rfl)) ?_
          refine W.q rfl rfl rfl rfl (by decide) (Yd.call (v := .bool r33) rfl Try.func17 rfl rfl (.cons (.t rfl) (.cons (.t rfl) .nil)) (fun x' hx w hw => syllogistref_Bit_ok w0 x'.m x'.l hidden_1 u_14 _ hr34 w hw)) ?_
          refine W.q rfl rfl rfl rfl (by decide) (Yd.not rfl (.t rfl)) ?_
          refine W.end ?_
          refine NX.sub (env' := [(1, _), (2, _), (3, _), (4, _), (5, _), (6, _), (15, _), (16, _), (17, _), (34, _)]) ⟨rfl, rfl, rfl, rfl, rfl, rfl, rfl, rfl, rfl, rfl, trivial⟩ ?_
          refine NX.then ?_
          refine Tr.join (S := fun env x => ∃ q_35 : Int, env = [(1, .int .u32 (hidden_1.toNat : Int)), (2, ut_2), (3, .int .i64 s_3), (4, .int .i64 p_4), (5, v23), (6, bp b1 0), (15, .int .i64 u_14), (16, .int .i64 a_29), (17, .int .i64 q_35)] ∧ x = ⟨m, hcells b1 [.int .i64 m_0.n, .int .i64 m_0.users, .int .i64 m_0.acts, um_0_3, um_0_4] 25 :: hownT 43 2 Act.enc v23 l22 :: l⟩ ∧ syllogistref_step_k36 m_0 t_2 s_3 p_4 u_14 a_29 l22 nx31 q_35 = some r) ?_ (fun hk37 => ?_)
          · rintro _ _ ⟨q_35, rfl, rfl, hr⟩
            unfold syllogistref_step_k36 at hr
            try dsimp only at hr
            refine NX.then ?_
            refine Tr.seq ?_
            obtain ⟨y38, hy39, hr⟩ := bind_some hr
            obtain ⟨y43, hy44, hr⟩ := bind_some hr
            obtain ⟨y48, hy49, hr⟩ := bind_some hr
            obtain ⟨y50, hy51, hr⟩ := bind_some hr
            obtain ⟨y55, hy56, hr⟩ := bind_some hr
            obtain ⟨y57, hy58, hr⟩ := bind_some hr
            obtain ⟨y62, hy63, hr⟩ := bind_some hr
            refine Tr.region_x (fun _ => false) (fun _ => false) (Ord.of [0, 1, 2, 3, 4, 5, 6, 7, 8, 9, 10, 11, 12, 13, 14, 15, 16, 17, 18, 19, 20, 21, 22, 23, 24, 25]) FM (by kernel_rfl) ?_
            refine W.q rfl rfl rfl rfl (by decide) (Yd.mv rfl (.t rfl)) ?_
            refine W.q rfl rfl rfl rfl (by decide) (Yd.fldB rfl Try.underlying25 rfl SZ22 rfl (.t rfl)) ?_
            refine W.q rfl rfl rfl rfl (by decide) (Yd.ldB (pos := 0) rfl rfl rfl ON22 (.t rfl)) ?_
            refine W.q rfl rfl rfl rfl (by decide) (Yd.mv rfl (.t rfl)) ?_
            refine W.q rfl rfl rfl rfl (by decide) (Yd.idxR hm_0_3 hy39 rfl Try.underlying22 SZ23 (.t rfl) (.t rfl)) ?_
            obtain ⟨u40, hu41, hat42⟩ := hm_0_3.row hy39
            refine W.q rfl rfl rfl rfl (by decide) (Yd.ldRow hat42 (.refl _) rfl ON23 (.t rfl)) ?_
            refine W.q rfl rfl rfl rfl (by decide) (Yd.mv rfl (.t rfl)) ?_
            refine W.q rfl rfl rfl rfl (by decide) (Yd.idxR hu41 hy44 rfl Try.underlying23 SZ40 (.t rfl) (.t rfl)) ?_
            obtain ⟨u45, hu46, hat47⟩ := hu41.row hy44
            refine W.q rfl rfl rfl rfl (by decide) (Yd.ldRow hat47 (.refl _) rfl ON40 (.t rfl)) ?_
            refine W.q rfl rfl rfl rfl (by decide) (Yd.mv rfl (.t rfl)) ?_
            refine W.q rfl rfl rfl rfl (by decide) (Yd.idxR hu46 hy49 rfl Try.underlying40 SZ3 (.t rfl) (.t rfl)) ?_
            refine W.q rfl rfl rfl rfl (by decide) (Yd.ldF hu46 (.refl _) hy49 rfl rfl ON3 (.t rfl)) ?_
            refine W.q rfl rfl rfl rfl (by decide) (Yd.idxR ht_2 hy51 rfl Try.underlying23 SZ40 (.t rfl) (.t rfl)) ?_
            obtain ⟨u52, hu53, hat54⟩ := ht_2.row hy51
            refine W.q rfl rfl rfl rfl (by decide) (Yd.ldRow hat54 (.refl _) rfl ON40 (.t rfl)) ?_
            refine W.q rfl rfl rfl rfl (by decide) (Yd.mv rfl (.t rfl)) ?_
            refine W.q rfl rfl rfl rfl (by decide) (Yd.idxR hu53 hy56 rfl Try.underlying40 SZ3 (.t rfl) (.t rfl)) ?_
            refine W.q rfl rfl rfl rfl (by decide) (Yd.ldF hu53 (.refl _) hy56 rfl rfl ON3 (.t rfl)) ?_
            refine W.q rfl rfl rfl rfl (by decide) (Yd.mv rfl (.t rfl)) ?_
            refine W.q rfl rfl rfl rfl (by decide) (Yd.mv rfl (.t rfl)) ?_
            refine W.q rfl rfl rfl rfl (by decide) (Yd.idxR ht_2 hy58 rfl Try.underlying23 SZ40 (.t rfl) (.t rfl)) ?_
            obtain ⟨u59, hu60, hat61⟩ := ht_2.row hy58
            refine W.q rfl rfl rfl rfl (by decide) (Yd.ldRow hat61 (.refl _) rfl ON40 (.t rfl)) ?_
            refine W.q rfl rfl rfl rfl (by decide) (Yd.mv rfl (.t rfl)) ?_
            refine W.q rfl rfl rfl rfl (by decide) (Yd.idxR hu60 hy63 rfl Try.underlying40 SZ3 (.t rfl) (.t rfl)) ?_
            refine W.q rfl rfl rfl rfl (by decide) (Yd.ldF hu60 (.refl _) hy63 rfl rfl ON3 (.t rfl)) ?_
            refine W.q rfl rfl rfl rfl (by decide) (Yd.sub rfl (.t rfl) .c) ?_
            refine W.q rfl rfl rfl rfl (by decide) (Yd.eql rfl (.t rfl) (.t rfl)) ?_
            refine W.end ?_
            refine NX.sub (env' := [(1, _), (2, _), (3, _), (4, _), (5, _), (6, _), (15, _), (16, _), (17, _), (71, _)]) ⟨rfl, rfl, rfl, rfl, rfl, rfl, rfl, rfl, rfl, rfl, trivial⟩ ?_
            refine NX.then ?_
            refine Tr.cond (.t rfl) (fun hb => ?_) (fun hb => ?_)
            · have hr := cond_t hb hr
              refine Tr.seq ?_
              obtain ⟨y64, hy65, hr⟩ := bind_some hr
              obtain ⟨y69, hy70, hr⟩ := bind_some hr
              obtain ⟨y74, hy75, hr⟩ := bind_some hr
              obtain ⟨hq79, hr⟩ := guard_some hr; replace hq79 := of_decide_eq_true hq79
              refine Tr.region_xJ (fun x => Sle m x.m ∧ (∃ p : Nat, x.l[p]? = some (hcells b1 [.int .i64 m_0.n, .int .i64 m_0.users, .int .i64 m_0.acts, um_0_3, um_0_4] 25)) ∧ True) (fun _ _ hx h => by obtain ⟨hm, ⟨_, h0⟩, _⟩ := h; exact ⟨hm.trans hx.1, hx.at h0, trivial⟩) (fun i => Nat.beq i 17) (fun i => Nat.beq i 1 || Nat.beq i 4 || Nat.beq i 7 || Nat.beq i 10) (fun i => Nat.beq i 16 || Nat.beq i 17) (fun i => Nat.beq i 0 || Nat.beq i 1 || Nat.beq i 2 || Nat.beq i 3 || Nat.beq i 4 || Nat.beq i 5 || Nat.beq i 6 || Nat.beq i 7 || Nat.beq i 8 || Nat.beq i 9 || Nat.beq i 10 || Nat.beq i 11 || Nat.beq i 17) (Ord.of [0, 1, 2, 3, 4, 5, 6, 7, 8, 9, 10, 11, 12, 13, 14, 15, 16, 17, 18, 19, 20]) FM (by kernel_rfl) ?_
              refine W.p rfl rfl rfl rfl (by decide) (fun _ => Yd.fldB rfl Try.underlying25 rfl SZ22 rfl (.t rfl)) ?_
              refine W.pJ rfl rfl rfl rfl (by decide) (fun _ h => by obtain ⟨jhm, ⟨jp0, jhp0⟩, _⟩ := h; exact Yd.ldB (pos := jp0) jhp0 rfl rfl ON22 (.t rfl)) ⟨(.refl _), ⟨0, rfl⟩, trivial⟩ rfl ?_
              refine W.p rfl rfl rfl rfl (by decide) (fun _ => Yd.mv rfl (.t rfl)) ?_
              refine W.p rfl rfl rfl rfl (by decide) (fun _ => Yd.idxR hm_0_3 hy65 rfl Try.underlying22 SZ23 (.t rfl) (.t rfl)) ?_
              obtain ⟨u80, hu81, hat82⟩ := hm_0_3.row hy65
              refine W.pJ rfl rfl rfl rfl (by decide) (fun _ h => by obtain ⟨jhm, ⟨jp0, jhp0⟩, _⟩ := h; exact Yd.ldRow hat82 jhm rfl ON23 (.t rfl)) ⟨(.refl _), ⟨0, rfl⟩, trivial⟩ rfl ?_
              refine W.p rfl rfl rfl rfl (by decide) (fun _ => Yd.mv rfl (.t rfl)) ?_
              refine W.p rfl rfl rfl rfl (by decide) (fun _ => Yd.idxR hu81 hy70 rfl Try.underlying23 SZ40 (.t rfl) (.t rfl)) ?_
              obtain ⟨u83, hu84, hat85⟩ := hu81.row hy70
              refine W.pJ rfl rfl rfl rfl (by decide) (fun _ h => by obtain ⟨jhm, ⟨jp0, jhp0⟩, _⟩ := h; exact Yd.ldRow hat85 jhm rfl ON40 (.t rfl)) ⟨(.refl _), ⟨0, rfl⟩, trivial⟩ rfl ?_
              refine W.p rfl rfl rfl rfl (by decide) (fun _ => Yd.mv rfl (.t rfl)) ?_
              refine W.p rfl rfl rfl rfl (by decide) (fun _ => Yd.idxR hu84 hy75 rfl Try.underlying40 SZ3 (.t rfl) (.t rfl)) ?_
              refine W.pJ rfl rfl rfl rfl (by decide) (fun _ h => by obtain ⟨jhm, ⟨jp0, jhp0⟩, _⟩ := h; exact Yd.ldF hu84 jhm hy75 rfl rfl ON3 (.t rfl)) ⟨(.refl _), ⟨0, rfl⟩, trivial⟩ rfl ?_
              refine W.p rfl rfl rfl rfl (by decide) (fun _ => Yd.mv rfl (.t rfl)) ?_
              refine W.q rfl rfl rfl rfl (by decide) (Yd.mv rfl (.t rfl)) ?_
              refine W.q rfl rfl rfl rfl (by decide) (Yd.mv rfl (.t rfl)) ?_
              refine W.q rfl rfl rfl rfl (by decide) (Yd.mv rfl (.t rfl)) ?_
              refine W.q rfl rfl rfl rfl (by decide) (Yd.bld (cells := [.int .i64 u_14, .int .i64 a_29]) rfl ZI43 PL43 (.cons (.t rfl) (.cons (.t rfl) .nil)) rfl) ?_
              refine W.e rfl rfl rfl rfl (by decide) (Ef.bsT (enc := Act.enc) (vs := [_]) (ys := [({ user := u_14, act := a_29 } : Act)]) (fun _ => rfl) IF43 rfl Try.underlying27 (by decide) rfl (.cons (.t rfl) .nil) rfl rfl (by decide)) ?_ (hJ := fun _ _ _ h => absurd (show false = true from h) (by decide))
              rintro v86 _ rfl
              refine ⟨.inr ⟨.refl _, [_], rfl⟩, ?_⟩
              refine W.cast (m' := m) (l' := hownT 43 2 Act.enc v86 _ :: hcells b1 [_, _, _, _, _] 25 :: hownT 43 2 Act.enc v23 _ :: l) rfl rfl ?_
              refine W.e rfl rfl rfl rfl (by decide) (Ef.apI (pos := 2) (enc := Act.enc) (xs := l22) (ys := ([({ user := u_14, act := a_29 } : Act)] : List Act)) (fun _ => rfl) IF43 rfl rfl Try.underlying27 rfl (by decide) (.t rfl) (.t rfl) (Src.own (pos := 0) rfl) (fun _ => rfl) (by omega) (by omega)) ?_ (hJ := by rintro v88 _ rfl; exact fun _ => ⟨(.refl _), ⟨1, rfl⟩, trivial⟩)
              rintro v88 _ rfl
              refine ⟨.inl rfl, ?_⟩
              refine W.cast (m' := m) (l' := hownT 43 2 Act.enc v86 _ :: hcells b1 [_, _, _, _, _] 25 :: hownT 43 2 Act.enc v88 _ :: l) rfl rfl ?_
              refine W.q rfl rfl rfl rfl (by decide) (Yd.as rfl (.t rfl)) ?_
              refine W.q rfl rfl rfl rfl (by decide) (Yd.as rfl (.t rfl)) ?_
              refine W.q rfl rfl rfl rfl (by decide) (Yd.as rfl (.t rfl)) ?_
              refine W.end ?_
              refine NX.sub (env' := [(12, _), (13, _), (14, _)]) ⟨rfl, rfl, rfl, trivial⟩ ?_
              refine NX.drop (l' := hownT 43 2 Act.enc v88 _ :: l) (.cons _ (.cons _ (.cons_cons _ (.refl _)))) ?_
              refine NX.then ?_
              refine Tr.ret' (RT.block (RT.then (RT.then (RT.block (RT.block (RT.then (RT.then (RT.block (RT.then ?_)))))))))
              refine res3 rfl rfl rfl rfl ?_
              intro w hc
              cases hr
              exact ⟨_, rfl, hc⟩
            · have hr := cond_f hb hr
              refine Tr.skip' ?_
              refine NX.block ?_
              refine NX.then ?_
              refine Tr.region_f (fun _ => false) ?_
              refine W.q rfl rfl rfl rfl (by decide) (Yd.mv rfl (.t rfl)) ?_
              refine W.q rfl rfl rfl rfl (by decide) (Yd.add rfl (.t rfl) .c) ?_
              refine W.q rfl rfl rfl rfl (by decide) (Yd.as rfl (.t rfl)) ?_
              refine W.end ?_
              refine NX.sub (env' := [(1, _), (2, _), (3, _), (4, _), (5, _), (6, _), (15, _), (16, _)]) ⟨rfl, rfl, rfl, rfl, rfl, rfl, rfl, rfl, trivial⟩ ?_
              refine NX.sub (env' := [(1, _), (2, _), (3, _), (4, _), (5, _), (6, _), (15, _), (16, _)]) ⟨rfl, rfl, rfl, rfl, rfl, rfl, rfl, rfl, trivial⟩ ?_
              have hw := w64_id (n := a_29 + 1) (by omega) (by omega)
              exact NX.again n32 (a_29 + 1, l22) (Nat.lt_succ_self _) ⟨_, (by rw [hw] <;> rfl), rfl, (fr_dec hna_29), (by omega), ((hnx31 _).symm.trans hr)⟩
          refine Tr.cond (.t rfl) (fun hb => ?_) (fun hb => ?_)
          · have hr := cond_t hb hr
            obtain ⟨y89, hy90, hr⟩ := bind_some hr
            obtain ⟨y94, hy95, hr⟩ := bind_some hr
            obtain ⟨y99, hy100, hr⟩ := bind_some hr
            refine Tr.region_f (fun _ => false) ?_
            refine W.q rfl rfl rfl rfl (by decide) (Yd.fldB rfl Try.underlying25 rfl SZ22 rfl (.t rfl)) ?_
            refine W.q rfl rfl rfl rfl (by decide) (Yd.ldB (pos := 0) rfl rfl rfl ON22 (.t rfl)) ?_
            refine W.q rfl rfl rfl rfl (by decide) (Yd.mv rfl (.t rfl)) ?_
            refine W.q rfl rfl rfl rfl (by decide) (Yd.idxR hm_0_3 hy90 rfl Try.underlying22 SZ23 (.t rfl) (.t rfl)) ?_
            obtain ⟨u91, hu92, hat93⟩ := hm_0_3.row hy90
            refine W.q rfl rfl rfl rfl (by decide) (Yd.ldRow hat93 (.refl _) rfl ON23 (.t rfl)) ?_
            refine W.q rfl rfl rfl rfl (by decide) (Yd.mv rfl (.t rfl)) ?_
            refine W.q rfl rfl rfl rfl (by decide) (Yd.idxR hu92 hy95 rfl Try.underlying23 SZ40 (.t rfl) (.t rfl)) ?_
            obtain ⟨u96, hu97, hat98⟩ := hu92.row hy95
            refine W.q rfl rfl rfl rfl (by decide) (Yd.ldRow hat98 (.refl _) rfl ON40 (.t rfl)) ?_
            refine W.q rfl rfl rfl rfl (by decide) (Yd.mv rfl (.t rfl)) ?_
            refine W.q rfl rfl rfl rfl (by decide) (Yd.idxR hu97 hy100 rfl Try.underlying40 SZ3 (.t rfl) (.t rfl)) ?_
            refine W.q rfl rfl rfl rfl (by decide) (Yd.ldF hu97 (.refl _) hy100 rfl rfl ON3 (.t rfl)) ?_
            refine W.q rfl rfl rfl rfl (by decide) (Yd.as rfl (.t rfl)) ?_
            refine W.end ?_
            refine NX.sub (env' := [(1, _), (2, _), (3, _), (4, _), (5, _), (6, _), (15, _), (16, _), (17, _)]) ⟨rfl, rfl, rfl, rfl, rfl, rfl, rfl, rfl, rfl, trivial⟩ ?_
            refine NX.sub (env' := [(1, _), (2, _), (3, _), (4, _), (5, _), (6, _), (15, _), (16, _), (17, _)]) ⟨rfl, rfl, rfl, rfl, rfl, rfl, rfl, rfl, rfl, trivial⟩ ?_
            exact hk37 _ _ ⟨_, rfl, rfl, hr⟩
          · have hr := cond_f hb hr
            refine Tr.skip' ?_
            refine NX.sub (env' := [(1, _), (2, _), (3, _), (4, _), (5, _), (6, _), (15, _), (16, _), (17, _)]) ⟨rfl, rfl, rfl, rfl, rfl, rfl, rfl, rfl, rfl, trivial⟩ ?_
            exact hk37 _ _ ⟨_, rfl, rfl, hr⟩

def syllogistref_Leak_k26 (l24 : List Act) : Option ((List Act) × Bool) :=
  some ((l24, true))

def syllogistref_Leak_b28 (m_0 : Machine) (hidden_1 : (BitVec 32)) (r3 : (List (List Int))) (s_20 : Int) (p_21 : Int) (l22 : List Act) (nx29 : (Int × Int × (List Act)) → Option ((List Act) × Bool)) : Option ((List Act) × Bool) :=
  (geti r3 s_20).bind fun y31 =>
  (geti y31 p_21).bind fun y36 =>
  (bif (decide (y36 > (0 : Int))) then
  (syllogistref_step (({ n := m_0.n, users := m_0.users, acts := m_0.acts, next := m_0.next, sees := m_0.sees } : Machine)) hidden_1 r3 s_20 p_21 l22).bind fun r38 =>
  nx29 (r38.1, r38.2.1, r38.2.2)
  else
  syllogistref_Leak_k26 l22)

def syllogistref_Leak (fuel : Nat) (m_0 : Machine) (hidden_1 : (BitVec 32)) : Option ((List Act) × Bool) :=
  (syllogistref_LeakIn fuel (({ n := m_0.n, users := m_0.users, acts := m_0.acts, next := m_0.next, sees := m_0.sees } : Machine)) hidden_1 ((w64 (m_0.n * m_0.n)))).bind fun r3 =>
  (geti r3 ((0 : Int))).bind fun y8 =>
  (geti y8 ((0 : Int))).bind fun y13 =>
  (bif (decide (y13 < (0 : Int))) then
  some (([], false))
  else
  whileK (σ := Int × Int × (List Act)) (fun s nx_ => syllogistref_Leak_b28 m_0 hidden_1 r3 s.1 s.2.1 s.2.2 nx_) fuel (((0 : Int)), ((0 : Int)), (([] : List Act))))

set_option maxRecDepth 100000 in
set_option maxHeartbeats 4000000 in
theorem syllogistref_Leak_ok (w0 : World) (m : Snap) (l : List HI) (fuel : Nat) (m_0 : Machine) (um_0_3 : Value) (hm_0_3 : RS (Rp.slice (Rp.slice rI)) m um_0_3 m_0.next) (um_0_4 : Value) (hm_0_4 : RS (Rp.slice rI) m um_0_4 m_0.sees) (hidden_1 : (BitVec 32)) (r : (List Act) × Bool) (hr : syllogistref_Leak fuel m_0 hidden_1 = some r) (w : World) (hc : cX w0 ⟨m, l⟩ w) :
    Calls Try.prog 6 [.agg #[.int .i64 m_0.n, .int .i64 m_0.users, .int .i64 m_0.acts, um_0_3, um_0_4], .int .u32 (hidden_1.toNat : Int)].toArray w fun e w' => ∃ z0 : Value, e = .returned (.tuple #[z0, .bool r.2]) ∧ cX w0 ⟨m, hownT 43 2 Act.enc z0 r.1 :: l⟩ w' := by
  unfold syllogistref_Leak at hr
  refine calls_of_Tr (N := 44) Try.func6 rfl hc rfl (Nat.le_of_ble_eq_true rfl) ?_
  refine Tr.seq ?_
  refine Tr.region_f (fun i => Nat.beq i 0) ?_
  refine W.e rfl rfl rfl rfl (by decide) (Ef.bx rfl (.t rfl) rfl) ?_
  rintro _ _ ⟨b1, rfl, rfl⟩
  refine ⟨.inl rfl, ?_⟩
  refine W.cast (m' := m) (l' := hcells b1 [_, _, _, _, _] 25 :: l) rfl rfl ?_
  refine W.q rfl rfl rfl rfl (by decide) (Yd.as rfl .c) ?_
  refine W.q rfl rfl rfl rfl (by decide) (Yd.as rfl .c) ?_
  refine W.end ?_
  refine NX.sub (env' := [(1, _), (2, _)]) ⟨rfl, rfl, trivial⟩ ?_
  refine NX.then ?_
  refine Tr.seq ?_
  obtain ⟨r3, hr4, hr⟩ := bind_some hr
  refine Tr.region_f (fun i => Nat.beq i 7) ?_
  refine W.q rfl rfl rfl rfl (by decide) (Yd.ldBs (pos := 0) (us := [_, _, _, _, _]) rfl rfl rfl rfl ON25 US25 SZ25 (.t rfl)) ?_
  refine W.q rfl rfl rfl rfl (by decide) (Yd.mv rfl (.t rfl)) ?_
  refine W.q rfl rfl rfl rfl (by decide) (Yd.fldB rfl Try.underlying25 rfl SZ3 rfl (.t rfl)) ?_
  refine W.q rfl rfl rfl rfl (by decide) (Yd.ldB (pos := 0) rfl rfl rfl ON3 (.t rfl)) ?_
  refine W.q rfl rfl rfl rfl (by decide) (Yd.fldB rfl Try.underlying25 rfl SZ3 rfl (.t rfl)) ?_
  refine W.q rfl rfl rfl rfl (by decide) (Yd.ldB (pos := 0) rfl rfl rfl ON3 (.t rfl)) ?_
  refine W.q rfl rfl rfl rfl (by decide) (Yd.mul rfl (.t rfl) (.t rfl)) ?_
  refine W.e rfl rfl rfl rfl (by decide) (Ef.call (R := fun z x' => ∃ u5 : Value, ∃ m6 : Snap, z = u5 ∧ x' = ⟨m6, hcells b1 [.int .i64 m_0.n, .int .i64 m_0.users, .int .i64 m_0.acts, um_0_3, um_0_4] 25 :: l⟩ ∧ Sle m m6 ∧ RS (Rp.slice rI) m6 u5 r3) rfl Try.func13 rfl rfl (.cons (.t rfl) (.cons (.t rfl) (.cons (.t rfl) .nil))) (fun w hw => (syllogistref_LeakIn_ok w0 _ _ fuel _ _ hm_0_3 _ hm_0_4 hidden_1 ((w64 (m_0.n * m_0.n))) _ hr4 w hw).mono fun e w' ⟨u5, m6, he, hm', hu7, hc'⟩ => ⟨_, _, he, ⟨u5, m6, rfl, rfl, hm', hu7⟩, hc'⟩)) ?_
  rintro u5 _ ⟨_, m6, rfl, rfl, hsm6, hu7⟩
  have hm_0_3 := hm_0_3.mono hsm6
  have hm_0_4 := hm_0_4.mono hsm6
  refine ⟨.inl rfl, ?_⟩
  refine W.cast (m' := m6) (l' := hcells b1 [_, _, _, _, _] 25 :: l) rfl rfl ?_
  refine W.q rfl rfl rfl rfl (by decide) (Yd.as rfl (.t rfl)) ?_
  refine W.end ?_
  refine NX.sub (env' := [(1, _), (2, _), (6, _)]) ⟨rfl, rfl, rfl, trivial⟩ ?_
  refine NX.then ?_
  refine Tr.seq ?_
  refine Tr.seq ?_
  obtain ⟨y8, hy9, hr⟩ := bind_some hr
  obtain ⟨y13, hy14, hr⟩ := bind_some hr
  refine Tr.region_f (fun _ => false) ?_
  refine W.q rfl rfl rfl rfl (by decide) (Yd.mv rfl (.t rfl)) ?_
  refine W.q rfl rfl rfl rfl (by decide) (Yd.idxR hu7 hy9 rfl Try.underlying23 SZ40 (.t rfl) .c) ?_
  obtain ⟨u10, hu11, hat12⟩ := hu7.row hy9
  refine W.q rfl rfl rfl rfl (by decide) (Yd.ldRow hat12 (.refl _) rfl ON40 (.t rfl)) ?_
  refine W.q rfl rfl rfl rfl (by decide) (Yd.idxR hu11 hy14 rfl Try.underlying40 SZ3 (.t rfl) .c) ?_
  refine W.q rfl rfl rfl rfl (by decide) (Yd.ldF hu11 (.refl _) hy14 rfl rfl ON3 (.t rfl)) ?_
  refine W.q rfl rfl rfl rfl (by decide) (Yd.lss rfl (.t rfl) .c) ?_
  refine W.end ?_
  refine NX.sub (env' := [(1, _), (2, _), (6, _), (23, _)]) ⟨rfl, rfl, rfl, rfl, trivial⟩ ?_
  refine NX.then ?_
  refine Tr.cond (.t rfl) (fun hb => ?_) (fun hb => ?_)
  · have hr := cond_t hb hr
    refine Tr.seq ?_
    refine Tr.region_f (fun _ => false) ?_
    refine W.q rfl rfl rfl rfl (by decide) (Yd.as rfl .c) ?_
    refine W.q rfl rfl rfl rfl (by decide) (Yd.as rfl .c) ?_
    refine W.end ?_
    refine NX.sub (env' := [(4, _), (5, _)]) ⟨rfl, rfl, trivial⟩ ?_
    refine NX.drop (l' := l) (.cons _ (.refl _)) ?_
    refine NX.then ?_
    refine Tr.ret' (RT.then ?_)
    refine res2 rfl rfl rfl ?_
    intro w hc
    cases hr
    exact ⟨_, rfl, (cX_le (x := ⟨m, _⟩) ⟨hsm6, [], rfl⟩ (cX_nil hc))⟩
  · have hr := cond_f hb hr
    refine Tr.skip' ?_
    refine NX.then ?_
    refine Tr.seq ?_
    refine Tr.region_f (fun _ => false) ?_
    refine W.q rfl rfl rfl rfl (by decide) (Yd.as rfl .c) ?_
    refine W.end ?_
    refine NX.sub (env' := [(1, _), (2, _), (6, _), (7, _)]) ⟨rfl, rfl, rfl, rfl, trivial⟩ ?_
    refine NX.then ?_
    refine Tr.seq ?_
    refine Tr.region_f (fun _ => false) ?_
    refine W.q rfl rfl rfl rfl (by decide) (Yd.as rfl .c) ?_
    refine W.end ?_
    refine NX.sub (env' := [(1, _), (2, _), (6, _), (7, _), (8, _)]) ⟨rfl, rfl, rfl, rfl, rfl, trivial⟩ ?_
    refine NX.then ?_
    refine Tr.seq ?_
    refine Tr.region_f (fun _ => false) ?_
    refine W.q rfl rfl rfl rfl (by decide) (Yd.as rfl .c) ?_
    refine W.end ?_
    refine NX.sub (env' := [(1, _), (2, _), (6, _), (7, _), (8, _), (9, _)]) ⟨rfl, rfl, rfl, rfl, rfl, rfl, trivial⟩ ?_
    refine NX.then ?_
    refine Tr.seq ?_
    refine Tr.addnil 43 2 ?_
    refine Tr.join (S := fun env x => ∃ l24 : List Act, ∃ v25 : Value, env = [(7, v25)] ∧ x = ⟨m6, hownT 43 2 Act.enc v25 l24 :: l⟩ ∧ syllogistref_Leak_k26 l24 = some r) ?_ (fun hk27 => ?_)
    · rintro _ _ ⟨l24, v25, rfl, rfl, hr⟩
      unfold syllogistref_Leak_k26 at hr
      try dsimp only at hr
      refine NX.then ?_
      refine Tr.seq ?_
      refine Tr.region_f (fun _ => false) ?_
      refine W.q rfl rfl rfl rfl (by decide) (Yd.mv rfl (.t rfl)) ?_
      refine W.q rfl rfl rfl rfl (by decide) (Yd.as rfl (.t rfl)) ?_
      refine W.q rfl rfl rfl rfl (by decide) (Yd.as rfl .c) ?_
      refine W.end ?_
      refine NX.sub (env' := [(4, _), (5, _)]) ⟨rfl, rfl, trivial⟩ ?_
      refine NX.then ?_
      refine Tr.ret' ?_
      refine res2 rfl rfl rfl ?_
      intro w hc
      cases hr
      exact ⟨_, rfl, (cX_le (x := ⟨m, _⟩) ⟨hsm6, [], rfl⟩ hc)⟩
    refine Tr.block ?_
    refine Tr.sub (env' := [(1, _), (2, _), (6, _), (7, _), (8, _), (9, _)]) ⟨rfl, rfl, rfl, rfl, rfl, rfl, trivial⟩ ?_
    refine Tr.loop (S := fun n (z : Int × Int × (List Act)) env x => match z with | (s_20, p_21, l22) => ∃ v23 : Value, env = [(1, .int .u32 (hidden_1.toNat : Int)), (2, bp b1 0), (6, u5), (7, v23), (8, .int .i64 s_20), (9, .int .i64 p_21)] ∧ x = ⟨m6, hownT 43 2 Act.enc v23 l22 :: hcells b1 [.int .i64 m_0.n, .int .i64 m_0.users, .int .i64 m_0.acts, um_0_3, um_0_4] 25 :: l⟩ ∧ whileK (σ := Int × Int × (List Act)) (fun s nx_ => syllogistref_Leak_b28 m_0 hidden_1 r3 s.1 s.2.1 s.2.2 nx_) n (s_20, p_21, l22) = some r) _ ((0 : Int), (0 : Int), ([] : List Act)) ⟨_, rfl, rfl, hr⟩ ?_
    rintro n30 ⟨s_20, p_21, l22⟩ env x ⟨v23, rfl, rfl, hr⟩
    cases n30 with
    | zero => simp [whileK] at hr
    | succ n30 =>
      obtain ⟨nx29, hnx29, hr⟩ := whileK_succ hr
      try dsimp only at hr
      unfold syllogistref_Leak_b28 at hr
      try dsimp only at hr
      refine Tr.seq ?_
      refine Tr.seq ?_
      obtain ⟨y31, hy32, hr⟩ := bind_some hr
      obtain ⟨y36, hy37, hr⟩ := bind_some hr
      refine Tr.region_f (fun _ => false) ?_
      refine W.q rfl rfl rfl rfl (by decide) (Yd.mv rfl (.t rfl)) ?_
      refine W.q rfl rfl rfl rfl (by decide) (Yd.mv rfl (.t rfl)) ?_
      refine W.q rfl rfl rfl rfl (by decide) (Yd.idxR hu7 hy32 rfl Try.underlying23 SZ40 (.t rfl) (.t rfl)) ?_
      obtain ⟨u33, hu34, hat35⟩ := hu7.row hy32
      refine W.q rfl rfl rfl rfl (by decide) (Yd.ldRow hat35 (.refl _) rfl ON40 (.t rfl)) ?_
      refine W.q rfl rfl rfl rfl (by decide) (Yd.mv rfl (.t rfl)) ?_
      refine W.q rfl rfl rfl rfl (by decide) (Yd.idxR hu34 hy37 rfl Try.underlying40 SZ3 (.t rfl) (.t rfl)) ?_
      refine W.q rfl rfl rfl rfl (by decide) (Yd.ldF hu34 (.refl _) hy37 rfl rfl ON3 (.t rfl)) ?_
      refine W.q rfl rfl rfl rfl (by decide) (Yd.gtr rfl (.t rfl) .c) ?_
      refine W.end ?_
      refine NX.sub (env' := [(1, _), (2, _), (6, _), (7, _), (8, _), (9, _), (31, _)]) ⟨rfl, rfl, rfl, rfl, rfl, rfl, rfl, trivial⟩ ?_
      refine NX.then ?_
      refine Tr.cond (.t rfl) (fun hb => ?_) (fun hb => ?_)
      · have hr := cond_t hb hr
        refine Tr.skip' ?_
        refine NX.then ?_
        refine Tr.block ?_
        obtain ⟨r38, hr39, hr⟩ := bind_some hr
        refine Tr.region_f (fun i => Nat.beq i 6) ?_
        refine W.q rfl rfl rfl rfl (by decide) (Yd.ldBs (pos := 1) (us := [_, _, _, _, _]) rfl rfl rfl rfl ON25 US25 SZ25 (.t rfl)) ?_
        refine W.q rfl rfl rfl rfl (by decide) (Yd.mv rfl (.t rfl)) ?_
        refine W.q rfl rfl rfl rfl (by decide) (Yd.mv rfl (.t rfl)) ?_
        refine W.q rfl rfl rfl rfl (by decide) (Yd.mv rfl (.t rfl)) ?_
        refine W.q rfl rfl rfl rfl (by decide) (Yd.mv rfl (.t rfl)) ?_
        refine W.q rfl rfl rfl rfl (by decide) (Yd.mv rfl (.t rfl)) ?_
        refine W.e rfl rfl rfl rfl (by decide) (Ef.call (R := fun z x' => ∃ v40 : Value, z = .tuple #[.int .i64 r38.1, .int .i64 r38.2.1, v40] ∧ x' = ⟨m6, hownT 43 2 Act.enc v40 r38.2.2 :: hcells b1 [.int .i64 m_0.n, .int .i64 m_0.users, .int .i64 m_0.acts, um_0_3, um_0_4] 25 :: l⟩) rfl Try.func14 rfl rfl (.cons (.t rfl) (.cons (.t rfl) (.cons (.t rfl) (.cons (.t rfl) (.cons (.t rfl) (.cons (.t rfl) .nil)))))) (by intro w hw; exact (syllogistref_step_ok w0 _ _ _ _ hm_0_3 _ hm_0_4 hidden_1 _ _ hu7 s_20 p_21 _ _ _ hr39 w hw).mono fun e w' ⟨v40, he, hc'⟩ => ⟨_, _, he, ⟨v40, rfl, rfl⟩, hc'⟩)) ?_
        rintro _ _ ⟨v40, rfl, rfl⟩
        refine ⟨.inl rfl, ?_⟩
        refine W.cast (m' := m6) (l' := hownT 43 2 Act.enc v40 _ :: hcells b1 [_, _, _, _, _] 25 :: l) rfl rfl ?_
        refine W.q rfl rfl rfl rfl (by decide) (Yd.mv rfl (.t rfl)) ?_
        refine W.q rfl rfl rfl rfl (by decide) (Yd.ext rfl (.t rfl) rfl) ?_
        refine W.q rfl rfl rfl rfl (by decide) (Yd.ext rfl (.t rfl) rfl) ?_
        refine W.q rfl rfl rfl rfl (by decide) (Yd.ext rfl (.t rfl) rfl) ?_
        refine W.q rfl rfl rfl rfl (by decide) (Yd.as rfl (.t rfl)) ?_
        refine W.q rfl rfl rfl rfl (by decide) (Yd.as rfl (.t rfl)) ?_
        refine W.q rfl rfl rfl rfl (by decide) (Yd.as rfl (.t rfl)) ?_
        refine W.end ?_
        refine NX.sub (env' := [(1, _), (2, _), (6, _), (8, _), (9, _), (7, _)]) ⟨rfl, rfl, rfl, rfl, rfl, rfl, trivial⟩ ?_
        refine NX.block ?_
        refine NX.sub (env' := [(1, _), (2, _), (6, _), (7, _), (8, _), (9, _)]) ⟨rfl, rfl, rfl, rfl, rfl, rfl, trivial⟩ ?_
        exact NX.again n30 (r38.1, r38.2.1, r38.2.2) (Nat.lt_succ_self _) ⟨_, rfl, rfl, ((hnx29 _).symm.trans hr)⟩
      · have hr := cond_f hb hr
        refine Tr.exit' (EX.then (EX.then (EX.block ?_)))
        refine NX.sub (env' := [(7, _)]) ⟨rfl, trivial⟩ ?_
        refine NX.drop (l' := hownT 43 2 Act.enc v23 _ :: l) (.cons_cons _ (.cons _ (.refl _))) ?_
        exact hk27 _ _ ⟨_, _, rfl, rfl, hr⟩

def syllogistref_Acts_k3 : Option (Bool) :=
  some true

def syllogistref_Acts_b7 (a_0 : List Act) (b_1 : List Act) (i_6 : Int) (nx8 : Unit → Option (Bool)) : Option (Bool) :=
  (geti a_0 i_6).bind fun y10 =>
  (geti b_1 i_6).bind fun y12 =>
  (bif (!((y10.user == y12.user) && ((y10.act == y12.act) && true))) then
  some false
  else
  nx8 ())

def syllogistref_Acts (a_0 : List Act) (b_1 : List Act) : Option (Bool) :=
  (bif ((a_0.length : Int) != (b_1.length : Int)) then
  some false
  else
  forK (σ := Unit) (fun i s nx_ => syllogistref_Acts_b7 a_0 b_1 i nx_) (fun _ => syllogistref_Acts_k3) ((a_0.length : Int) - (0 : Int)).toNat (0 : Int) ())

set_option maxRecDepth 100000 in
set_option maxHeartbeats 4000000 in
theorem syllogistref_Acts_ok (w0 : World) (m : Snap) (l : List HI) (ua_0 : Value) (a_0 : List Act) (ha_0 : RS rAct m ua_0 a_0) (ub_1 : Value) (b_1 : List Act) (hb_1 : RS rAct m ub_1 b_1) (r : Bool) (hr : syllogistref_Acts a_0 b_1 = some r) (w : World) (hc : cX w0 ⟨m, l⟩ w) :
    Calls Try.prog 7 [ua_0, ub_1].toArray w fun e w' => e = .returned (.bool r) ∧ cX w0 ⟨m, l⟩ w' := by
  unfold syllogistref_Acts at hr
  refine calls_of_Tr (N := 26) Try.func7 rfl hc rfl (Nat.le_of_ble_eq_true rfl) ?_
  refine Tr.seq ?_
  refine Tr.region_f (fun _ => false) ?_
  refine W.q rfl rfl rfl rfl (by decide) (Yd.as rfl .c) ?_
  refine W.end ?_
  refine NX.sub (env' := [(0, _), (1, _)]) ⟨rfl, rfl, trivial⟩ ?_
  refine NX.then ?_
  refine Tr.seq ?_
  refine Tr.seq ?_
  refine Tr.region_f (fun _ => false) ?_
  refine W.q rfl rfl rfl rfl (by decide) (Yd.mv rfl (.t rfl)) ?_
  refine W.q rfl rfl rfl rfl (by decide) (Yd.lenR ha_0 rfl Try.underlying27 (.t rfl)) ?_
  refine W.q rfl rfl rfl rfl (by decide) (Yd.mv rfl (.t rfl)) ?_
  refine W.q rfl rfl rfl rfl (by decide) (Yd.lenR hb_1 rfl Try.underlying27 (.t rfl)) ?_
  refine W.q rfl rfl rfl rfl (by decide) (Yd.neq rfl (.t rfl) (.t rfl)) ?_
  refine W.end ?_
  refine NX.sub (env' := [(0, _), (1, _), (10, _)]) ⟨rfl, rfl, rfl, trivial⟩ ?_
  refine NX.then ?_
  refine Tr.cond (.t rfl) (fun hb => ?_) (fun hb => ?_)
  · have hr := cond_t hb hr
    refine Tr.seq ?_
    refine Tr.region_f (fun _ => false) ?_
    refine W.q rfl rfl rfl rfl (by decide) (Yd.as rfl .c) ?_
    refine W.end ?_
    refine NX.sub (env' := [(4, _)]) ⟨rfl, trivial⟩ ?_
    refine NX.then ?_
    refine Tr.ret' (RT.then ?_)
    refine res1 rfl rfl ?_
    intro w hc
    cases hr
    exact ⟨rfl, hc⟩
  · have hr := cond_f hb hr
    refine Tr.skip' ?_
    refine NX.then ?_
    refine Tr.seq ?_
    refine Tr.seq ?_
    refine Tr.region_f (fun _ => false) ?_
    refine W.q rfl rfl rfl rfl (by decide) (Yd.as rfl .c) ?_
    refine W.end ?_
    refine NX.sub (env' := [(0, _), (1, _), (5, _)]) ⟨rfl, rfl, rfl, trivial⟩ ?_
    refine NX.then ?_
    refine Tr.join (S := fun env x => env = [] ∧ x = ⟨m, l⟩ ∧ syllogistref_Acts_k3 = some r) ?_ (fun hk4 => ?_)
    · rintro _ _ ⟨rfl, rfl, hr⟩
      unfold syllogistref_Acts_k3 at hr
      try dsimp only at hr
      refine NX.then ?_
      refine Tr.seq ?_
      refine Tr.region_f (fun _ => false) ?_
      refine W.q rfl rfl rfl rfl (by decide) (Yd.as rfl .c) ?_
      refine W.end ?_
      refine NX.sub (env' := [(4, _)]) ⟨rfl, trivial⟩ ?_
      refine NX.then ?_
      refine Tr.ret' ?_
      refine res1 rfl rfl ?_
      intro w hc
      cases hr
      exact ⟨rfl, hc⟩
    have hlen5 := (ha_0).2.1
    refine Tr.block ?_
    refine Tr.sub (env' := [(0, _), (1, _), (5, _)]) ⟨rfl, rfl, rfl, trivial⟩ ?_
    refine Tr.loop (S := fun n (z : Int × Unit) env x => match z with | (i_6, _) => env = [(0, ua_0), (1, ub_1), (5, .int .i64 i_6)] ∧ x = ⟨m, l⟩ ∧ n = ((a_0.length : Int) - i_6).toNat ∧ 0 ≤ i_6 ∧ forK (σ := Unit) (fun i s nx_ => syllogistref_Acts_b7 a_0 b_1 i nx_) (fun _ => syllogistref_Acts_k3) n i_6 () = some r) _ ((0 : Int), ()) ⟨rfl, rfl, rfl, (by omega), hr⟩ ?_
    rintro n9 ⟨i_6, _⟩ env x ⟨rfl, rfl, hni_6, h0i_6, hr⟩
    cases n9 with
    | zero =>
      simp only [forK] at hr
      refine Tr.seq ?_
      refine Tr.seq ?_
      refine Tr.region_f (fun _ => false) ?_
      refine W.q rfl rfl rfl rfl (by decide) (Yd.mv rfl (.t rfl)) ?_
      refine W.q rfl rfl rfl rfl (by decide) (Yd.mv rfl (.t rfl)) ?_
      refine W.q rfl rfl rfl rfl (by decide) (Yd.lenR ha_0 rfl Try.underlying27 (.t rfl)) ?_
      refine W.q rfl rfl rfl rfl (by decide) (Yd.lss rfl (.t rfl) (.t rfl)) ?_
      refine W.end ?_
      refine NX.sub (env' := [(0, _), (1, _), (5, _), (14, _)]) ⟨rfl, rfl, rfl, rfl, trivial⟩ ?_
      refine NX.then ?_
      refine Tr.cond (.t rfl) (fun hb => ?_) (fun hb => ?_)
      · exact absurd (hb.symm.trans (fr_end hni_6)) (by decide)
      ·
        refine Tr.exit' (EX.then (EX.then (EX.block ?_)))
        refine NX.sub (env' := []) trivial ?_
        exact hk4 _ _ ⟨rfl, rfl, hr⟩
    | succ n9 =>
      obtain ⟨nx8, hnx8, hr⟩ := forK_succ hr
      try dsimp only at hr
      unfold syllogistref_Acts_b7 at hr
      try dsimp only at hr
      have hlti_6 := fr_bnd hni_6
      refine Tr.seq ?_
      refine Tr.seq ?_
      refine Tr.region_f (fun _ => false) ?_
      refine W.q rfl rfl rfl rfl (by decide) (Yd.mv rfl (.t rfl)) ?_
      refine W.q rfl rfl rfl rfl (by decide) (Yd.mv rfl (.t rfl)) ?_
      refine W.q rfl rfl rfl rfl (by decide) (Yd.lenR ha_0 rfl Try.underlying27 (.t rfl)) ?_
      refine W.q rfl rfl rfl rfl (by decide) (Yd.lss rfl (.t rfl) (.t rfl)) ?_
      refine W.end ?_
      refine NX.sub (env' := [(0, _), (1, _), (5, _), (14, _)]) ⟨rfl, rfl, rfl, rfl, trivial⟩ ?_
      refine NX.then ?_
      refine Tr.cond (.t rfl) (fun hb => ?_) (fun hb => ?_)
      rotate_left
      · exact absurd (hb.symm.trans (fr_go hni_6)) (by decide)
      ·
        refine Tr.skip' ?_
        refine NX.then ?_
        refine Tr.seq ?_
        refine Tr.block ?_
        refine Tr.seq ?_
        obtain ⟨y10, hy11, hr⟩ := bind_some hr
        obtain ⟨y12, hy13, hr⟩ := bind_some hr
        refine Tr.region_x (fun _ => false) (fun _ => false) (Ord.of [0, 1, 2, 3, 4, 5, 6, 7, 8]) FM (by kernel_rfl) ?_
        refine W.q rfl rfl rfl rfl (by decide) (Yd.mv rfl (.t rfl)) ?_
        refine W.q rfl rfl rfl rfl (by decide) (Yd.mv rfl (.t rfl)) ?_
        refine W.q rfl rfl rfl rfl (by decide) (Yd.idxR ha_0 hy11 rfl Try.underlying27 SZ43 (.t rfl) (.t rfl)) ?_
        refine W.q rfl rfl rfl rfl (by decide) (Yd.ldFs (us := [_, _]) ha_0 (.refl _) hy11 rfl rfl ON43 US43 SZ43 (.t rfl)) ?_
        refine W.q rfl rfl rfl rfl (by decide) (Yd.mv rfl (.t rfl)) ?_
        refine W.q rfl rfl rfl rfl (by decide) (Yd.mv rfl (.t rfl)) ?_
        refine W.q rfl rfl rfl rfl (by decide) (Yd.idxR hb_1 hy13 rfl Try.underlying27 SZ43 (.t rfl) (.t rfl)) ?_
        refine W.q rfl rfl rfl rfl (by decide) (Yd.ldFs (us := [_, _]) hb_1 (.refl _) hy13 rfl rfl ON43 US43 SZ43 (.t rfl)) ?_
        refine W.q rfl rfl rfl rfl (by decide) (Yd.neA rfl GU43 (fun w => ne_of_eq (EQ43 w y10.user y10.act y12.user y12.act)) (.t rfl) (.t rfl)) ?_
        refine W.end ?_
        refine NX.sub (env' := [(0, _), (1, _), (5, _), (25, _)]) ⟨rfl, rfl, rfl, rfl, trivial⟩ ?_
        refine NX.then ?_
        refine Tr.cond (.t rfl) (fun hb => ?_) (fun hb => ?_)
        · have hr := cond_t hb hr
          refine Tr.seq ?_
          refine Tr.region_f (fun _ => false) ?_
          refine W.q rfl rfl rfl rfl (by decide) (Yd.as rfl .c) ?_
          refine W.end ?_
          refine NX.sub (env' := [(4, _)]) ⟨rfl, trivial⟩ ?_
          refine NX.then ?_
          refine Tr.ret' (RT.block (RT.then (RT.then (RT.block (RT.then ?_)))))
          refine res1 rfl rfl ?_
          intro w hc
          cases hr
          exact ⟨rfl, hc⟩
        · have hr := cond_f hb hr
          refine Tr.skip' ?_
          refine NX.block ?_
          refine NX.then ?_
          refine Tr.region_f (fun _ => false) ?_
          refine W.q rfl rfl rfl rfl (by decide) (Yd.mv rfl (.t rfl)) ?_
          refine W.q rfl rfl rfl rfl (by decide) (Yd.add rfl (.t rfl) .c) ?_
          refine W.q rfl rfl rfl rfl (by decide) (Yd.as rfl (.t rfl)) ?_
          refine W.end ?_
          refine NX.sub (env' := [(0, _), (1, _), (5, _)]) ⟨rfl, rfl, rfl, trivial⟩ ?_
          refine NX.sub (env' := [(0, _), (1, _), (5, _)]) ⟨rfl, rfl, rfl, trivial⟩ ?_
          have hw := w64_id (n := i_6 + 1) (by omega) (by omega)
          exact NX.again n9 (i_6 + 1, ()) (Nat.lt_succ_self _) ⟨(by rw [hw] <;> rfl), rfl, (fr_dec hni_6), (by omega), ((hnx8 _).symm.trans hr)⟩

def syllogistlaw_ViewLeaks (fuel : Nat) (m_0 : Machine) (hidden_1 : (BitVec 32)) : Option (Bool) :=
  (view_Leak fuel (({ n := m_0.n, users := m_0.users, acts := m_0.acts, next := m_0.next, sees := m_0.sees } : Machine)) hidden_1).bind fun r3 =>
  (syllogistlaw_hiddenCode (({ n := m_0.n, users := m_0.users, acts := m_0.acts, next := m_0.next, sees := m_0.sees } : Machine)) hidden_1).bind fun r8 =>
  (bif (r8 != (0 : Int)) then
  some (((r3.2 == r8) && ((r3.1.length : Int) == (0 : Int))))
  else
  (syllogistref_Leak fuel (({ n := m_0.n, users := m_0.users, acts := m_0.acts, next := m_0.next, sees := m_0.sees } : Machine)) hidden_1).bind fun r10 =>
  (bif (!r10.2) then
  some (((r3.2 == (5 : Int)) && ((r3.1.length : Int) == (0 : Int))))
  else
  bif (!((r3.2 == (0 : Int)) == true) || (syllogistref_Acts r3.1 r10.1).isSome) then
  some (((r3.2 == (0 : Int)) && (((syllogistref_Acts r3.1 r10.1).getD false)))) else none))

set_option maxRecDepth 100000 in
set_option maxHeartbeats 4000000 in
theorem syllogistlaw_ViewLeaks_ok (w0 : World) (m : Snap) (l : List HI) (fuel : Nat) (m_0 : Machine) (um_0_3 : Value) (hm_0_3 : RS (Rp.slice (Rp.slice rI)) m um_0_3 m_0.next) (um_0_4 : Value) (hm_0_4 : RS (Rp.slice rI) m um_0_4 m_0.sees) (hidden_1 : (BitVec 32)) (r : Bool) (hr : syllogistlaw_ViewLeaks fuel m_0 hidden_1 = some r) (w : World) (hc : cX w0 ⟨m, l⟩ w) :
    Calls Try.prog 3 [.agg #[.int .i64 m_0.n, .int .i64 m_0.users, .int .i64 m_0.acts, um_0_3, um_0_4], .int .u32 (hidden_1.toNat : Int)].toArray w fun e w' => e = .returned (.bool r) ∧ cX w0 ⟨m, l⟩ w' := by
  unfold syllogistlaw_ViewLeaks at hr
  refine calls_of_Tr (N := 51) Try.func3 rfl hc rfl (Nat.le_of_ble_eq_true rfl) ?_
  refine Tr.seq ?_
  refine Tr.region_f (fun i => Nat.beq i 0) ?_
  refine W.e rfl rfl rfl rfl (by decide) (Ef.bx rfl (.t rfl) rfl) ?_
  rintro _ _ ⟨b1, rfl, rfl⟩
  refine ⟨.inl rfl, ?_⟩
  refine W.cast (m' := m) (l' := hcells b1 [_, _, _, _, _] 25 :: l) rfl rfl ?_
  refine W.q rfl rfl rfl rfl (by decide) (Yd.as rfl .c) ?_
  refine W.end ?_
  refine NX.sub (env' := [(1, _), (2, _)]) ⟨rfl, rfl, trivial⟩ ?_
  refine NX.then ?_
  refine Tr.seq ?_
  obtain ⟨r3, hr4, hr⟩ := bind_some hr
  refine Tr.region_f (fun i => Nat.beq i 2) ?_
  refine W.q rfl rfl rfl rfl (by decide) (Yd.ldBs (pos := 0) (us := [_, _, _, _, _]) rfl rfl rfl rfl ON25 US25 SZ25 (.t rfl)) ?_
  refine W.q rfl rfl rfl rfl (by decide) (Yd.mv rfl (.t rfl)) ?_
  refine W.e rfl rfl rfl rfl (by decide) (Ef.call (R := fun z x' => ∃ u5 : Value, ∃ m6 : Snap, z = .tuple #[u5, .int .i64 r3.2] ∧ x' = ⟨m6, hcells b1 [.int .i64 m_0.n, .int .i64 m_0.users, .int .i64 m_0.acts, um_0_3, um_0_4] 25 :: l⟩ ∧ Sle m m6 ∧ RS rAct m6 u5 r3.1) rfl Try.func4 rfl rfl (.cons (.t rfl) (.cons (.t rfl) .nil)) (fun w hw => (view_Leak_ok w0 _ _ fuel _ _ hm_0_3 _ hm_0_4 hidden_1 _ hr4 w hw).mono fun e w' ⟨u5, m6, he, hm', hu7, hc'⟩ => ⟨_, _, he, ⟨u5, m6, rfl, rfl, hm', hu7⟩, hc'⟩)) ?_
  rintro _ _ ⟨u5, m6, rfl, rfl, hsm6, hu7⟩
  have hm_0_3 := hm_0_3.mono hsm6
  have hm_0_4 := hm_0_4.mono hsm6
  refine ⟨.inl rfl, ?_⟩
  refine W.cast (m' := m6) (l' := hcells b1 [_, _, _, _, _] 25 :: l) rfl rfl ?_
  refine W.q rfl rfl rfl rfl (by decide) (Yd.mv rfl (.t rfl)) ?_
  refine W.q rfl rfl rfl rfl (by decide) (Yd.ext rfl (.t rfl) rfl) ?_
  refine W.q rfl rfl rfl rfl (by decide) (Yd.ext rfl (.t rfl) rfl) ?_
  refine W.q rfl rfl rfl rfl (by decide) (Yd.as rfl (.t rfl)) ?_
  refine W.q rfl rfl rfl rfl (by decide) (Yd.as rfl (.t rfl)) ?_
  refine W.end ?_
  refine NX.sub (env' := [(1, _), (2, _), (5, _), (6, _)]) ⟨rfl, rfl, rfl, rfl, trivial⟩ ?_
  refine NX.then ?_
  refine Tr.seq ?_
  obtain ⟨r8, hr9, hr⟩ := bind_some hr
  refine Tr.region_f (fun _ => false) ?_
  refine W.q rfl rfl rfl rfl (by decide) (Yd.ldBs (pos := 0) (us := [_, _, _, _, _]) rfl rfl rfl rfl ON25 US25 SZ25 (.t rfl)) ?_
  refine W.q rfl rfl rfl rfl (by decide) (Yd.mv rfl (.t rfl)) ?_
  refine W.q rfl rfl rfl rfl (by decide) (Yd.call (v := .int .i64 r8) rfl Try.func5 rfl rfl (.cons (.t rfl) (.cons (.t rfl) .nil)) (fun x' hx w hw => syllogistlaw_hiddenCode_ok w0 x'.m x'.l _ _ (hm_0_3.mono hx.1) _ (hm_0_4.mono hx.1) hidden_1 _ hr9 w hw)) ?_
  refine W.q rfl rfl rfl rfl (by decide) (Yd.as rfl (.t rfl)) ?_
  refine W.end ?_
  refine NX.sub (env' := [(1, _), (2, _), (5, _), (6, _), (7, _)]) ⟨rfl, rfl, rfl, rfl, rfl, trivial⟩ ?_
  refine NX.then ?_
  refine Tr.seq ?_
  refine Tr.seq ?_
  refine Tr.region_f (fun _ => false) ?_
  refine W.q rfl rfl rfl rfl (by decide) (Yd.mv rfl (.t rfl)) ?_
  refine W.q rfl rfl rfl rfl (by decide) (Yd.neq rfl (.t rfl) .c) ?_
  refine W.end ?_
  refine NX.sub (env' := [(1, _), (2, _), (5, _), (6, _), (7, _), (20, _)]) ⟨rfl, rfl, rfl, rfl, rfl, rfl, trivial⟩ ?_
  refine NX.then ?_
  refine Tr.cond (.t rfl) (fun hb => ?_) (fun hb => ?_)
  · have hr := cond_t hb hr
    refine Tr.seq ?_
    refine Tr.region_f (fun _ => false) ?_
    refine W.q rfl rfl rfl rfl (by decide) (Yd.mv rfl (.t rfl)) ?_
    refine W.q rfl rfl rfl rfl (by decide) (Yd.mv rfl (.t rfl)) ?_
    refine W.q rfl rfl rfl rfl (by decide) (Yd.eql rfl (.t rfl) (.t rfl)) ?_
    refine W.q rfl rfl rfl rfl (by decide) (Yd.mv rfl (.t rfl)) ?_
    refine W.g rfl rfl rfl rfl rfl (.t rfl _) rfl (by decide) (fun hG => Yd.mv rfl (.t rfl)) ?_
    refine W.g rfl rfl rfl rfl rfl (.t rfl _) rfl (by decide) (fun hG => Yd.lenR hu7 rfl Try.underlying27 (.g rfl hG)) ?_
    refine W.g rfl rfl rfl rfl rfl (.t rfl _) rfl (by decide) (fun hG => Yd.eql rfl (.g rfl hG) .c) ?_
    refine W.q rfl rfl rfl rfl (by decide) (Yd.and rfl (.t rfl) .c rfl rfl) ?_
    refine W.q rfl rfl rfl rfl (by decide) (Yd.as rfl (.t rfl)) ?_
    refine W.end ?_
    refine NX.sub (env' := [(4, _)]) ⟨rfl, trivial⟩ ?_
    refine NX.drop (l' := l) (.cons _ (.refl _)) ?_
    refine NX.then ?_
    refine Tr.ret' (RT.then ?_)
    refine res1 rfl rfl ?_
    intro w hc
    cases hr
    exact ⟨rfl, (cX_le (x := ⟨m, _⟩) ⟨hsm6, [], rfl⟩ hc)⟩
  · have hr := cond_f hb hr
    refine Tr.skip' ?_
    refine NX.then ?_
    refine Tr.seq ?_
    obtain ⟨r10, hr11, hr⟩ := bind_some hr
    refine Tr.region_f (fun i => Nat.beq i 2) ?_
    refine W.q rfl rfl rfl rfl (by decide) (Yd.ldBs (pos := 0) (us := [_, _, _, _, _]) rfl rfl rfl rfl ON25 US25 SZ25 (.t rfl)) ?_
    refine W.q rfl rfl rfl rfl (by decide) (Yd.mv rfl (.t rfl)) ?_
    refine W.e rfl rfl rfl rfl (by decide) (Ef.call (R := fun z x' => ∃ v12 : Value, z = .tuple #[v12, .bool r10.2] ∧ x' = ⟨m6, hownT 43 2 Act.enc v12 r10.1 :: hcells b1 [.int .i64 m_0.n, .int .i64 m_0.users, .int .i64 m_0.acts, um_0_3, um_0_4] 25 :: l⟩) rfl Try.func6 rfl rfl (.cons (.t rfl) (.cons (.t rfl) .nil)) (fun w hw => (syllogistref_Leak_ok w0 _ _ fuel _ _ hm_0_3 _ hm_0_4 hidden_1 _ hr11 w hw).mono fun e w' ⟨v12, he, hc'⟩ => ⟨_, _, he, ⟨v12, rfl, rfl⟩, hc'⟩)) ?_
    rintro _ _ ⟨v12, rfl, rfl⟩
    refine ⟨.inl rfl, ?_⟩
    refine W.cast (m' := m6) (l' := hownT 43 2 Act.enc v12 _ :: hcells b1 [_, _, _, _, _] 25 :: l) rfl rfl ?_
    refine W.q rfl rfl rfl rfl (by decide) (Yd.mv rfl (.t rfl)) ?_
    refine W.q rfl rfl rfl rfl (by decide) (Yd.ext rfl (.t rfl) rfl) ?_
    refine W.q rfl rfl rfl rfl (by decide) (Yd.ext rfl (.t rfl) rfl) ?_
    refine W.q rfl rfl rfl rfl (by decide) (Yd.as rfl (.t rfl)) ?_
    refine W.q rfl rfl rfl rfl (by decide) (Yd.as rfl (.t rfl)) ?_
    refine W.end ?_
    refine NX.sub (env' := [(5, _), (6, _), (8, _), (9, _)]) ⟨rfl, rfl, rfl, rfl, trivial⟩ ?_
    refine NX.drop (l' := hownT 43 2 Act.enc v12 _ :: l) (.cons_cons _ (.cons _ (.refl _))) ?_
    refine NX.then ?_
    refine Tr.seq ?_
    refine Tr.seq ?_
    refine Tr.region_f (fun _ => false) ?_
    refine W.q rfl rfl rfl rfl (by decide) (Yd.mv rfl (.t rfl)) ?_
    refine W.q rfl rfl rfl rfl (by decide) (Yd.not rfl (.t rfl)) ?_
    refine W.end ?_
    refine NX.sub (env' := [(5, _), (6, _), (8, _), (36, _)]) ⟨rfl, rfl, rfl, rfl, trivial⟩ ?_
    refine NX.then ?_
    refine Tr.cond (.t rfl) (fun hb => ?_) (fun hb => ?_)
    · have hr := cond_t hb hr
      refine Tr.seq ?_
      refine Tr.region_f (fun _ => false) ?_
      refine W.q rfl rfl rfl rfl (by decide) (Yd.mv rfl (.t rfl)) ?_
      refine W.q rfl rfl rfl rfl (by decide) (Yd.eql rfl (.t rfl) .c) ?_
      refine W.q rfl rfl rfl rfl (by decide) (Yd.mv rfl (.t rfl)) ?_
      refine W.g rfl rfl rfl rfl rfl (.t rfl _) rfl (by decide) (fun hG => Yd.mv rfl (.t rfl)) ?_
      refine W.g rfl rfl rfl rfl rfl (.t rfl _) rfl (by decide) (fun hG => Yd.lenR hu7 rfl Try.underlying27 (.g rfl hG)) ?_
      refine W.g rfl rfl rfl rfl rfl (.t rfl _) rfl (by decide) (fun hG => Yd.eql rfl (.g rfl hG) .c) ?_
      refine W.q rfl rfl rfl rfl (by decide) (Yd.and rfl (.t rfl) .c rfl rfl) ?_
      refine W.q rfl rfl rfl rfl (by decide) (Yd.as rfl (.t rfl)) ?_
      refine W.end ?_
      refine NX.sub (env' := [(4, _)]) ⟨rfl, trivial⟩ ?_
      refine NX.drop (l' := l) (.cons _ (.refl _)) ?_
      refine NX.then ?_
      refine Tr.ret' (RT.then ?_)
      refine res1 rfl rfl ?_
      intro w hc
      cases hr
      exact ⟨rfl, (cX_le (x := ⟨m, _⟩) ⟨hsm6, [], rfl⟩ hc)⟩
    · have hr := cond_f hb hr
      refine Tr.skip' ?_
      refine NX.then ?_
      refine Tr.seq ?_
      obtain ⟨ha14, hr⟩ := guard_some hr
      refine Tr.region_f (fun _ => false) ?_
      refine W.q rfl rfl rfl rfl (by decide) (Yd.mv rfl (.t rfl)) ?_
      refine W.q rfl rfl rfl rfl (by decide) (Yd.eql rfl (.t rfl) .c) ?_
      refine W.q rfl rfl rfl rfl (by decide) (Yd.mv rfl (.t rfl)) ?_
      refine W.g rfl rfl rfl rfl rfl (.t rfl _) rfl (by decide) (fun hG => Yd.mv rfl (.t rfl)) ?_
      refine W.g rfl rfl rfl rfl rfl (.t rfl _) rfl (by decide) (fun hG => Yd.mv rfl (.t rfl)) ?_
      refine W.g rfl rfl rfl rfl rfl (.t rfl _) rfl (by decide) (fun hG => Yd.call (v := .bool ((((syllogistref_Acts r3.1 r10.1).getD false)))) rfl Try.func7 rfl rfl (.cons (.g rfl hG) (.cons (.g rfl hG) .nil)) (by intro x' hx w hw; obtain ⟨p0, hp0⟩ := hx.at (p := 0) rfl; obtain ⟨m2, hm2, hc2, ⟨L2, hl1, hl2⟩, hback⟩ := cX_lend hw hp0 lone_own; have hL1 : RS rAct m2 _ _ := RS_of_own hl1 hl2; exact (syllogistref_Acts_ok w0 m2 _ _ _ (hu7.mono (hx.1.trans hm2)) _ _ hL1 _ (gd_get (d := false) ha14 hG) w hc2).mono fun e w' ⟨he, hc'⟩ => ⟨he, (hback m2 _ _ w' (.refl _) hp0).2 hc'⟩)) ?_
      refine W.q rfl rfl rfl rfl (by decide) (Yd.and rfl (.t rfl) .c rfl rfl) ?_
      refine W.q rfl rfl rfl rfl (by decide) (Yd.as rfl (.t rfl)) ?_
      refine W.end ?_
      refine NX.sub (env' := [(4, _)]) ⟨rfl, trivial⟩ ?_
      refine NX.drop (l' := l) (.cons _ (.refl _)) ?_
      refine NX.then ?_
      refine Tr.ret' ?_
      refine res1 rfl rfl ?_
      intro w hc
      cases hr
      exact ⟨rfl, (cX_le (x := ⟨m, _⟩) ⟨hsm6, [], rfl⟩ hc)⟩
end Go.Proofs.Ytbbenieabpmghaa.Sy
