/- Functions of the program as plain functions, and that the translation computes them; the conditions stand in each theorem. Printed by an own program. -/
import Derived.Test.YtehfjfaanhdbaaaG3a
import Derived.Test.YtehfjfaanhdbaaaProg
namespace Go.Proofs.Ytehfjfaanhdbaaa.Sy
open Go
set_option linter.unusedVariables false
def syllogistref_AlikeStates_k36 (l32 : List (List Bool)) : Option ((List (List Bool))) :=
  some l32

def syllogistref_AlikeStates_k59 (nx43 : ((List (List Bool)) → Option ((List (List Bool))))) (l55 : List (List Bool)) : Option ((List (List Bool))) :=
  nx43 l55

def syllogistref_AlikeStates_k80 (nx64 : ((List (List Bool)) → Option ((List (List Bool))))) (l76 : List (List Bool)) : Option ((List (List Bool))) :=
  nx64 l76

def syllogistref_AlikeStates_k101 (nx85 : ((List (List Bool)) → Option ((List (List Bool))))) (l97 : List (List Bool)) : Option ((List (List Bool))) :=
  nx85 l97

def syllogistref_AlikeStates_k122 (nx106 : ((List (List Bool)) → Option ((List (List Bool))))) (l118 : List (List Bool)) : Option ((List (List Bool))) :=
  nx106 l118

def syllogistref_AlikeStates_b126 (m_0 : Machine) (hidden_1 : (BitVec 32)) (s_62 : Int) (p_83 : Int) (u_104 : Int) (a_125 : Int) (l114 : List (List Bool)) (nx127 : (List (List Bool)) → Option ((List (List Bool)))) : Option ((List (List Bool))) :=
  (syllogistref_Bit hidden_1 u_104).bind fun r129 =>
  bif (!((!r129) == true) || (geti m_0.next s_62).isSome) then
  bif (!((!r129) == true) || (geti (((geti m_0.next s_62).getD [])) u_104).isSome) then
  bif (!((!r129) == true) || (geti (((geti (((geti m_0.next s_62).getD [])) u_104).getD [])) a_125).isSome) then
  bif (!((!r129) == true) || (geti l114 (((geti (((geti (((geti m_0.next s_62).getD [])) u_104).getD [])) a_125).getD (0 : Int)))).isSome) then
  bif (!((!r129) == true) || (geti m_0.next p_83).isSome) then
  bif (!((!r129) == true) || (geti (((geti m_0.next p_83).getD [])) u_104).isSome) then
  bif (!((!r129) == true) || (geti (((geti (((geti m_0.next p_83).getD [])) u_104).getD [])) a_125).isSome) then
  bif (!((!r129) == true) || (geti (((geti l114 (((geti (((geti (((geti m_0.next s_62).getD [])) u_104).getD [])) a_125).getD (0 : Int)))).getD [])) (((geti (((geti (((geti m_0.next p_83).getD [])) u_104).getD [])) a_125).getD (0 : Int)))).isSome) then
  (bif ((!r129) && (!((geti (((geti l114 (((geti (((geti (((geti m_0.next s_62).getD [])) u_104).getD [])) a_125).getD (0 : Int)))).getD [])) (((geti (((geti (((geti m_0.next p_83).getD [])) u_104).getD [])) a_125).getD (0 : Int)))).getD false))) then
  (geti l114 s_62).bind fun y153 =>
  (geti y153 p_83).bind fun y157 =>
  nx127 (l114.set s_62.toNat (y153.set p_83.toNat false))
  else
  nx127 l114) else none else none else none else none else none else none else none else none

def syllogistref_AlikeStates_b105 (m_0 : Machine) (hidden_1 : (BitVec 32)) (s_62 : Int) (p_83 : Int) (u_104 : Int) (l93 : List (List Bool)) (nx106 : (List (List Bool)) → Option ((List (List Bool)))) : Option ((List (List Bool))) :=
  bif decide (m_0.acts ≤ 9223372036854775807) then
  forK (σ := (List (List Bool))) (fun i s nx_ => syllogistref_AlikeStates_b126 m_0 hidden_1 s_62 p_83 u_104 i s nx_) (fun s => syllogistref_AlikeStates_k122 nx106 s) (m_0.acts - (0 : Int)).toNat (0 : Int) l93 else none

def syllogistref_AlikeStates_b84 (m_0 : Machine) (hidden_1 : (BitVec 32)) (s_62 : Int) (p_83 : Int) (l72 : List (List Bool)) (nx85 : (List (List Bool)) → Option ((List (List Bool)))) : Option ((List (List Bool))) :=
  bif decide (m_0.users ≤ 9223372036854775807) then
  forK (σ := (List (List Bool))) (fun i s nx_ => syllogistref_AlikeStates_b105 m_0 hidden_1 s_62 p_83 i s nx_) (fun s => syllogistref_AlikeStates_k101 nx85 s) (m_0.users - (0 : Int)).toNat (0 : Int) l72 else none

def syllogistref_AlikeStates_b63 (m_0 : Machine) (hidden_1 : (BitVec 32)) (s_62 : Int) (l51 : List (List Bool)) (nx64 : (List (List Bool)) → Option ((List (List Bool)))) : Option ((List (List Bool))) :=
  bif decide (m_0.n ≤ 9223372036854775807) then
  forK (σ := (List (List Bool))) (fun i s nx_ => syllogistref_AlikeStates_b84 m_0 hidden_1 s_62 i s nx_) (fun s => syllogistref_AlikeStates_k80 nx64 s) (m_0.n - (0 : Int)).toNat (0 : Int) l51 else none

def syllogistref_AlikeStates_b42 (m_0 : Machine) (hidden_1 : (BitVec 32)) (k_41 : Int) (l28 : List (List Bool)) (nx43 : (List (List Bool)) → Option ((List (List Bool)))) : Option ((List (List Bool))) :=
  bif decide (m_0.n ≤ 9223372036854775807) then
  forK (σ := (List (List Bool))) (fun i s nx_ => syllogistref_AlikeStates_b63 m_0 hidden_1 i s nx_) (fun s => syllogistref_AlikeStates_k59 nx43 s) (m_0.n - (0 : Int)).toNat (0 : Int) l28 else none

def syllogistref_AlikeStates_k20 (m_0 : Machine) (hidden_1 : (BitVec 32)) (l16 : List (List Bool)) : Option ((List (List Bool))) :=
  bif decide ((w64 (m_0.n * m_0.n)) ≤ 9223372036854775807) then
  forK (σ := (List (List Bool))) (fun i s nx_ => syllogistref_AlikeStates_b42 m_0 hidden_1 i s nx_) (fun s => syllogistref_AlikeStates_k36 s) ((w64 (m_0.n * m_0.n)) - (0 : Int)).toNat (0 : Int) l16 else none

def syllogistref_AlikeStates_k183 (nx162 : ((List (List Bool)) → Option ((List (List Bool))))) (l179 : List (List Bool)) : Option ((List (List Bool))) :=
  nx162 l179

def syllogistref_AlikeStates_b187 (m_0 : Machine) (hidden_1 : (BitVec 32)) (s_160 : Int) (p_186 : Int) (l175 : List (List Bool)) (nx188 : (List (List Bool)) → Option ((List (List Bool)))) : Option ((List (List Bool))) :=
  (geti l175 s_160).bind fun y190 =>
  (syllogistref_Sees (({ n := m_0.n, users := m_0.users, acts := m_0.acts, next := m_0.next, sees := m_0.sees } : Machine)) hidden_1 s_160 p_186).bind fun r194 =>
  (geti y190 p_186).bind fun y196 =>
  nx188 (l175.set s_160.toNat (y190.set p_186.toNat r194))

def syllogistref_AlikeStates_b161 (m_0 : Machine) (hidden_1 : (BitVec 32)) (s_160 : Int) (l12 : List (List Bool)) (nx162 : (List (List Bool)) → Option ((List (List Bool)))) : Option ((List (List Bool))) :=
  bif decide (0 ≤ m_0.n ∧ m_0.n ≤ 1048576) then
  (geti l12 s_160).bind fun y167 =>
  bif decide (m_0.n ≤ 9223372036854775807) then
  forK (σ := (List (List Bool))) (fun i s nx_ => syllogistref_AlikeStates_b187 m_0 hidden_1 s_160 i s nx_) (fun s => syllogistref_AlikeStates_k183 nx162 s) (m_0.n - (0 : Int)).toNat (0 : Int) ((l12.set s_160.toNat ((List.replicate m_0.n.toNat false)))) else none else none

def syllogistref_AlikeStates (m_0 : Machine) (hidden_1 : (BitVec 32)) : Option ((List (List Bool))) :=
  bif decide (0 ≤ m_0.n ∧ m_0.n ≤ 1048576) then
  bif decide (m_0.n ≤ 9223372036854775807) then
  forK (σ := (List (List Bool))) (fun i s nx_ => syllogistref_AlikeStates_b161 m_0 hidden_1 i s nx_) (fun s => syllogistref_AlikeStates_k20 m_0 hidden_1 s) (m_0.n - (0 : Int)).toNat (0 : Int) ((List.replicate m_0.n.toNat ([] : List Bool))) else none else none

set_option maxRecDepth 100000 in
set_option maxHeartbeats 4000000 in
theorem syllogistref_AlikeStates_ok (w0 : World) (m : Snap) (l : List HI) (m_0 : Machine) (um_0_3 : Value) (hm_0_3 : RS (Rp.slice (Rp.slice rI)) m um_0_3 m_0.next) (um_0_4 : Value) (hm_0_4 : RS (Rp.slice rI) m um_0_4 m_0.sees) (hidden_1 : (BitVec 32)) (r : (List (List Bool))) (hr : syllogistref_AlikeStates m_0 hidden_1 = some r) (w : World) (hc : cX w0 ⟨m, l⟩ w) :
    Calls Try.prog 42 [.agg #[.int .i64 m_0.n, .int .i64 m_0.users, .int .i64 m_0.acts, um_0_3, um_0_4], .int .u32 (hidden_1.toNat : Int)].toArray w fun e w' => ∃ z0 : Value, ∃ m1 : Snap, e = .returned (z0) ∧ Sle m m1 ∧ RS (Rp.slice rB) m1 z0 r ∧ cX w0 ⟨m1, l⟩ w' := by
  unfold syllogistref_AlikeStates at hr
  refine calls_of_Tr (N := 119) Try.func42 rfl hc rfl (Nat.le_of_ble_eq_true rfl) ?_
  refine Tr.seq ?_
  refine Tr.region_f (fun i => Nat.beq i 0) ?_
  refine W.e rfl rfl rfl rfl (by decide) (Ef.bx rfl (.t rfl) rfl) ?_
  rintro _ _ ⟨b1, rfl, rfl⟩
  refine ⟨.inl rfl, ?_⟩
  refine W.cast (m' := m) (l' := hcells b1 [_, _, _, _, _] 69 :: l) rfl rfl ?_
  refine W.q rfl rfl rfl rfl (by decide) (Yd.as rfl .c) ?_
  refine W.end ?_
  refine NX.sub (env' := [(1, _), (2, _)]) ⟨rfl, rfl, trivial⟩ ?_
  refine NX.then ?_
  refine Tr.seq ?_
  obtain ⟨hq3, hr⟩ := guard_some hr; replace hq3 := of_decide_eq_true hq3
  refine Tr.region_f (fun i => Nat.beq i 2) ?_
  refine W.q rfl rfl rfl rfl (by decide) (Yd.fldB rfl Try.underlying69 rfl SZ3 rfl (.t rfl)) ?_
  refine W.q rfl rfl rfl rfl (by decide) (Yd.ldB (pos := 0) rfl rfl rfl ON3 (.t rfl)) ?_
  refine W.e rfl rfl rfl rfl (by decide) (Ef.mkM 4 1 encB IF89 rfl rfl Try.underlying87 (.t rfl) (.t rfl) (by omega) (by omega) (by omega)) ?_
  rintro v4 _ rfl
  refine ⟨.inl rfl, ?_⟩
  refine W.cast (m' := m) (l' := hown 89 1 v4 _ _ :: hrows 4 1 encB _ _ :: hcells b1 [_, _, _, _, _] 69 :: l) rfl rfl ?_
  refine W.q rfl rfl rfl rfl (by decide) (Yd.as rfl (.t rfl)) ?_
  refine W.end ?_
  refine NX.sub (env' := [(1, _), (2, _), (5, _)]) ⟨rfl, rfl, rfl, trivial⟩ ?_
  refine NX.then ?_
  refine Tr.seq ?_
  refine Tr.seq ?_
  refine Tr.region_f (fun _ => false) ?_
  refine W.q rfl rfl rfl rfl (by decide) (Yd.as rfl .c) ?_
  refine W.end ?_
  refine NX.sub (env' := [(1, _), (2, _), (5, _), (6, _)]) ⟨rfl, rfl, rfl, rfl, trivial⟩ ?_
  refine NX.then ?_
  refine Tr.join (S := fun env x => ∃ l16 : List (List Bool), ∃ v17 : Value, ∃ us18 : List Value, us18.length = l16.length ∧ env = [(1, .int .u32 (hidden_1.toNat : Int)), (2, bp b1 0), (5, v17)] ∧ x = ⟨m, hown 89 1 v17 l16.length us18 :: hrows 4 1 encB us18 l16 :: hcells b1 [.int .i64 m_0.n, .int .i64 m_0.users, .int .i64 m_0.acts, um_0_3, um_0_4] 69 :: l⟩ ∧ syllogistref_AlikeStates_k20 m_0 hidden_1 l16 = some r) ?_ (fun hk21 => ?_)
  · rintro _ _ ⟨l16, v17, us18, hw19, rfl, rfl, hr⟩
    unfold syllogistref_AlikeStates_k20 at hr
    try dsimp only at hr
    refine NX.then ?_
    refine Tr.seq ?_
    refine Tr.seq ?_
    refine Tr.region_f (fun _ => false) ?_
    refine W.q rfl rfl rfl rfl (by decide) (Yd.as rfl .c) ?_
    refine W.end ?_
    refine NX.sub (env' := [(1, _), (2, _), (5, _), (8, _)]) ⟨rfl, rfl, rfl, rfl, trivial⟩ ?_
    refine NX.then ?_
    refine Tr.join (S := fun env x => ∃ l32 : List (List Bool), ∃ v33 : Value, ∃ us34 : List Value, us34.length = l32.length ∧ env = [(5, v33)] ∧ x = ⟨m, hown 89 1 v33 l32.length us34 :: hrows 4 1 encB us34 l32 :: l⟩ ∧ syllogistref_AlikeStates_k36 l32 = some r) ?_ (fun hk37 => ?_)
    · rintro _ _ ⟨l32, v33, us34, hw35, rfl, rfl, hr⟩
      unfold syllogistref_AlikeStates_k36 at hr
      try dsimp only at hr
      refine NX.then ?_
      refine Tr.seq ?_
      refine Tr.region_f (fun _ => false) ?_
      refine W.q rfl rfl rfl rfl (by decide) (Yd.mv rfl (.t rfl)) ?_
      refine W.q rfl rfl rfl rfl (by decide) (Yd.as rfl (.t rfl)) ?_
      refine W.end ?_
      refine NX.sub (env' := [(4, _)]) ⟨rfl, trivial⟩ ?_
      refine NX.then ?_
      refine Tr.ret' ?_
      refine res1 rfl rfl ?_
      intro w hc
      cases hr
      obtain ⟨m38, hsm38, hu39, hc⟩ := cX_freezeM (enc := encB) (n := 1) (p := 0) (p2 := 0) (fun _ => rfl) hc rfl rfl
      have hm_0_3 := hm_0_3.mono hsm38
      have hm_0_4 := hm_0_4.mono hsm38
      exact ⟨_, _, rfl, hsm38, hu39, hc⟩
    obtain ⟨hle40, hr⟩ := guard_some hr; replace hle40 := of_decide_eq_true hle40
    refine Tr.block ?_
    refine Tr.sub (env' := [(1, _), (2, _), (5, _), (8, _)]) ⟨rfl, rfl, rfl, rfl, trivial⟩ ?_
    refine Tr.loop (S := fun n (z : Int × (List (List Bool))) env x => match z with | (k_41, l28) => ∃ v29 : Value, ∃ us30 : List Value, us30.length = l28.length ∧ env = [(1, .int .u32 (hidden_1.toNat : Int)), (2, bp b1 0), (5, v29), (8, .int .i64 k_41)] ∧ x = ⟨m, hown 89 1 v29 l28.length us30 :: hrows 4 1 encB us30 l28 :: hcells b1 [.int .i64 m_0.n, .int .i64 m_0.users, .int .i64 m_0.acts, um_0_3, um_0_4] 69 :: l⟩ ∧ n = ((w64 (m_0.n * m_0.n)) - k_41).toNat ∧ 0 ≤ k_41 ∧ forK (σ := (List (List Bool))) (fun i s nx_ => syllogistref_AlikeStates_b42 m_0 hidden_1 i s nx_) (fun s => syllogistref_AlikeStates_k36 s) n k_41 l28 = some r) _ ((0 : Int), l16) ⟨_, _, hw19, rfl, rfl, rfl, (by omega), hr⟩ ?_
    rintro n44 ⟨k_41, l28⟩ env x ⟨v29, us30, hw31, rfl, rfl, hnk_41, h0k_41, hr⟩
    cases n44 with
    | zero =>
      simp only [forK] at hr
      refine Tr.seq ?_
      refine Tr.seq ?_
      refine Tr.region_f (fun _ => false) ?_
      refine W.q rfl rfl rfl rfl (by decide) (Yd.mv rfl (.t rfl)) ?_
      refine W.q rfl rfl rfl rfl (by decide) (Yd.fldB rfl Try.underlying69 rfl SZ3 rfl (.t rfl)) ?_
      refine W.q rfl rfl rfl rfl (by decide) (Yd.ldB (pos := 2) rfl rfl rfl ON3 (.t rfl)) ?_
      refine W.q rfl rfl rfl rfl (by decide) (Yd.fldB rfl Try.underlying69 rfl SZ3 rfl (.t rfl)) ?_
      refine W.q rfl rfl rfl rfl (by decide) (Yd.ldB (pos := 2) rfl rfl rfl ON3 (.t rfl)) ?_
      refine W.q rfl rfl rfl rfl (by decide) (Yd.mul rfl (.t rfl) (.t rfl)) ?_
      refine W.q rfl rfl rfl rfl (by decide) (Yd.lss rfl (.t rfl) (.t rfl)) ?_
      refine W.end ?_
      refine NX.sub (env' := [(1, _), (2, _), (5, _), (8, _), (51, _)]) ⟨rfl, rfl, rfl, rfl, rfl, trivial⟩ ?_
      refine NX.then ?_
      refine Tr.cond (.t rfl) (fun hb => ?_) (fun hb => ?_)
      · exact absurd (hb.symm.trans (fr_end hnk_41)) (by decide)
      ·
        refine Tr.exit' (EX.then (EX.then (EX.block ?_)))
        refine NX.sub (env' := [(5, _)]) ⟨rfl, trivial⟩ ?_
        refine NX.drop (l' := hown 89 1 v29 _ _ :: hrows 4 1 encB _ _ :: l) (.cons_cons _ (.cons_cons _ (.cons _ (.refl _)))) ?_
        exact hk37 _ _ ⟨_, _, _, hw31, rfl, rfl, hr⟩
    | succ n44 =>
      obtain ⟨nx43, hnx43, hr⟩ := forK_succ hr
      try dsimp only at hr
      unfold syllogistref_AlikeStates_b42 at hr
      try dsimp only at hr
      have hltk_41 := fr_bnd hnk_41
      refine Tr.seq ?_
      refine Tr.seq ?_
      refine Tr.region_f (fun _ => false) ?_
      refine W.q rfl rfl rfl rfl (by decide) (Yd.mv rfl (.t rfl)) ?_
      refine W.q rfl rfl rfl rfl (by decide) (Yd.fldB rfl Try.underlying69 rfl SZ3 rfl (.t rfl)) ?_
      refine W.q rfl rfl rfl rfl (by decide) (Yd.ldB (pos := 2) rfl rfl rfl ON3 (.t rfl)) ?_
      refine W.q rfl rfl rfl rfl (by decide) (Yd.fldB rfl Try.underlying69 rfl SZ3 rfl (.t rfl)) ?_
      refine W.q rfl rfl rfl rfl (by decide) (Yd.ldB (pos := 2) rfl rfl rfl ON3 (.t rfl)) ?_
      refine W.q rfl rfl rfl rfl (by decide) (Yd.mul rfl (.t rfl) (.t rfl)) ?_
      refine W.q rfl rfl rfl rfl (by decide) (Yd.lss rfl (.t rfl) (.t rfl)) ?_
      refine W.end ?_
      refine NX.sub (env' := [(1, _), (2, _), (5, _), (8, _), (51, _)]) ⟨rfl, rfl, rfl, rfl, rfl, trivial⟩ ?_
      refine NX.then ?_
      refine Tr.cond (.t rfl) (fun hb => ?_) (fun hb => ?_)
      rotate_left
      · exact absurd (hb.symm.trans (fr_go hnk_41)) (by decide)
      ·
        refine Tr.skip' ?_
        refine NX.then ?_
        refine Tr.seq ?_
        refine Tr.block ?_
        refine Tr.seq ?_
        refine Tr.region_f (fun _ => false) ?_
        refine W.q rfl rfl rfl rfl (by decide) (Yd.as rfl .c) ?_
        refine W.end ?_
        refine NX.sub (env' := [(1, _), (2, _), (5, _), (8, _), (9, _)]) ⟨rfl, rfl, rfl, rfl, rfl, trivial⟩ ?_
        refine NX.then ?_
        refine Tr.join (S := fun env x => ∃ l55 : List (List Bool), ∃ v56 : Value, ∃ us57 : List Value, us57.length = l55.length ∧ env = [(1, .int .u32 (hidden_1.toNat : Int)), (2, bp b1 0), (5, v56), (8, .int .i64 k_41)] ∧ x = ⟨m, hown 89 1 v56 l55.length us57 :: hrows 4 1 encB us57 l55 :: hcells b1 [.int .i64 m_0.n, .int .i64 m_0.users, .int .i64 m_0.acts, um_0_3, um_0_4] 69 :: l⟩ ∧ syllogistref_AlikeStates_k59 nx43 l55 = some r) ?_ (fun hk60 => ?_)
        · rintro _ _ ⟨l55, v56, us57, hw58, rfl, rfl, hr⟩
          unfold syllogistref_AlikeStates_k59 at hr
          try dsimp only at hr
          refine NX.block ?_
          refine NX.then ?_
          refine Tr.region_f (fun _ => false) ?_
          refine W.q rfl rfl rfl rfl (by decide) (Yd.mv rfl (.t rfl)) ?_
          refine W.q rfl rfl rfl rfl (by decide) (Yd.add rfl (.t rfl) .c) ?_
          refine W.q rfl rfl rfl rfl (by decide) (Yd.as rfl (.t rfl)) ?_
          refine W.end ?_
          refine NX.sub (env' := [(1, _), (2, _), (5, _), (8, _)]) ⟨rfl, rfl, rfl, rfl, trivial⟩ ?_
          refine NX.sub (env' := [(1, _), (2, _), (5, _), (8, _)]) ⟨rfl, rfl, rfl, rfl, trivial⟩ ?_
          have hw := w64_id (n := k_41 + 1) (by omega) (by omega)
          exact NX.again n44 (k_41 + 1, l55) (Nat.lt_succ_self _) ⟨_, _, hw58, (by rw [hw] <;> rfl), rfl, (fr_dec hnk_41), (by omega), ((hnx43 _).symm.trans hr)⟩
        obtain ⟨hle61, hr⟩ := guard_some hr; replace hle61 := of_decide_eq_true hle61
        refine Tr.block ?_
        refine Tr.sub (env' := [(1, _), (2, _), (5, _), (8, _), (9, _)]) ⟨rfl, rfl, rfl, rfl, rfl, trivial⟩ ?_
        refine Tr.loop (S := fun n (z : Int × (List (List Bool))) env x => match z with | (s_62, l51) => ∃ v52 : Value, ∃ us53 : List Value, us53.length = l51.length ∧ env = [(1, .int .u32 (hidden_1.toNat : Int)), (2, bp b1 0), (5, v52), (8, .int .i64 k_41), (9, .int .i64 s_62)] ∧ x = ⟨m, hown 89 1 v52 l51.length us53 :: hrows 4 1 encB us53 l51 :: hcells b1 [.int .i64 m_0.n, .int .i64 m_0.users, .int .i64 m_0.acts, um_0_3, um_0_4] 69 :: l⟩ ∧ n = (m_0.n - s_62).toNat ∧ 0 ≤ s_62 ∧ forK (σ := (List (List Bool))) (fun i s nx_ => syllogistref_AlikeStates_b63 m_0 hidden_1 i s nx_) (fun s => syllogistref_AlikeStates_k59 nx43 s) n s_62 l51 = some r) _ ((0 : Int), l28) ⟨_, _, hw31, rfl, rfl, rfl, (by omega), hr⟩ ?_
        rintro n65 ⟨s_62, l51⟩ env x ⟨v52, us53, hw54, rfl, rfl, hns_62, h0s_62, hr⟩
        cases n65 with
        | zero =>
          simp only [forK] at hr
          refine Tr.seq ?_
          refine Tr.seq ?_
          refine Tr.region_f (fun _ => false) ?_
          refine W.q rfl rfl rfl rfl (by decide) (Yd.mv rfl (.t rfl)) ?_
          refine W.q rfl rfl rfl rfl (by decide) (Yd.fldB rfl Try.underlying69 rfl SZ3 rfl (.t rfl)) ?_
          refine W.q rfl rfl rfl rfl (by decide) (Yd.ldB (pos := 2) rfl rfl rfl ON3 (.t rfl)) ?_
          refine W.q rfl rfl rfl rfl (by decide) (Yd.lss rfl (.t rfl) (.t rfl)) ?_
          refine W.end ?_
          refine NX.sub (env' := [(1, _), (2, _), (5, _), (8, _), (9, _), (57, _)]) ⟨rfl, rfl, rfl, rfl, rfl, rfl, trivial⟩ ?_
          refine NX.then ?_
          refine Tr.cond (.t rfl) (fun hb => ?_) (fun hb => ?_)
          · exact absurd (hb.symm.trans (fr_end hns_62)) (by decide)
          ·
            refine Tr.exit' (EX.then (EX.then (EX.block ?_)))
            refine NX.sub (env' := [(1, _), (2, _), (5, _), (8, _)]) ⟨rfl, rfl, rfl, rfl, trivial⟩ ?_
            exact hk60 _ _ ⟨_, _, _, hw54, rfl, rfl, hr⟩
        | succ n65 =>
          obtain ⟨nx64, hnx64, hr⟩ := forK_succ hr
          try dsimp only at hr
          unfold syllogistref_AlikeStates_b63 at hr
          try dsimp only at hr
          have hlts_62 := fr_bnd hns_62
          refine Tr.seq ?_
          refine Tr.seq ?_
          refine Tr.region_f (fun _ => false) ?_
          refine W.q rfl rfl rfl rfl (by decide) (Yd.mv rfl (.t rfl)) ?_
          refine W.q rfl rfl rfl rfl (by decide) (Yd.fldB rfl Try.underlying69 rfl SZ3 rfl (.t rfl)) ?_
          refine W.q rfl rfl rfl rfl (by decide) (Yd.ldB (pos := 2) rfl rfl rfl ON3 (.t rfl)) ?_
          refine W.q rfl rfl rfl rfl (by decide) (Yd.lss rfl (.t rfl) (.t rfl)) ?_
          refine W.end ?_
          refine NX.sub (env' := [(1, _), (2, _), (5, _), (8, _), (9, _), (57, _)]) ⟨rfl, rfl, rfl, rfl, rfl, rfl, trivial⟩ ?_
          refine NX.then ?_
          refine Tr.cond (.t rfl) (fun hb => ?_) (fun hb => ?_)
          rotate_left
          · exact absurd (hb.symm.trans (fr_go hns_62)) (by decide)
          ·
            refine Tr.skip' ?_
            refine NX.then ?_
            refine Tr.seq ?_
            refine Tr.block ?_
            refine Tr.seq ?_
            refine Tr.region_f (fun _ => false) ?_
            refine W.q rfl rfl rfl rfl (by decide) (Yd.as rfl .c) ?_
            refine W.end ?_
            refine NX.sub (env' := [(1, _), (2, _), (5, _), (8, _), (9, _), (10, _)]) ⟨rfl, rfl, rfl, rfl, rfl, rfl, trivial⟩ ?_
            refine NX.then ?_
            refine Tr.join (S := fun env x => ∃ l76 : List (List Bool), ∃ v77 : Value, ∃ us78 : List Value, us78.length = l76.length ∧ env = [(1, .int .u32 (hidden_1.toNat : Int)), (2, bp b1 0), (5, v77), (8, .int .i64 k_41), (9, .int .i64 s_62)] ∧ x = ⟨m, hown 89 1 v77 l76.length us78 :: hrows 4 1 encB us78 l76 :: hcells b1 [.int .i64 m_0.n, .int .i64 m_0.users, .int .i64 m_0.acts, um_0_3, um_0_4] 69 :: l⟩ ∧ syllogistref_AlikeStates_k80 nx64 l76 = some r) ?_ (fun hk81 => ?_)
            · rintro _ _ ⟨l76, v77, us78, hw79, rfl, rfl, hr⟩
              unfold syllogistref_AlikeStates_k80 at hr
              try dsimp only at hr
              refine NX.block ?_
              refine NX.then ?_
              refine Tr.region_f (fun _ => false) ?_
              refine W.q rfl rfl rfl rfl (by decide) (Yd.mv rfl (.t rfl)) ?_
              refine W.q rfl rfl rfl rfl (by decide) (Yd.add rfl (.t rfl) .c) ?_
              refine W.q rfl rfl rfl rfl (by decide) (Yd.as rfl (.t rfl)) ?_
              refine W.end ?_
              refine NX.sub (env' := [(1, _), (2, _), (5, _), (8, _), (9, _)]) ⟨rfl, rfl, rfl, rfl, rfl, trivial⟩ ?_
              refine NX.sub (env' := [(1, _), (2, _), (5, _), (8, _), (9, _)]) ⟨rfl, rfl, rfl, rfl, rfl, trivial⟩ ?_
              have hw := w64_id (n := s_62 + 1) (by omega) (by omega)
              exact NX.again n65 (s_62 + 1, l76) (Nat.lt_succ_self _) ⟨_, _, hw79, (by rw [hw] <;> rfl), rfl, (fr_dec hns_62), (by omega), ((hnx64 _).symm.trans hr)⟩
            obtain ⟨hle82, hr⟩ := guard_some hr; replace hle82 := of_decide_eq_true hle82
            refine Tr.block ?_
            refine Tr.sub (env' := [(1, _), (2, _), (5, _), (8, _), (9, _), (10, _)]) ⟨rfl, rfl, rfl, rfl, rfl, rfl, trivial⟩ ?_
            refine Tr.loop (S := fun n (z : Int × (List (List Bool))) env x => match z with | (p_83, l72) => ∃ v73 : Value, ∃ us74 : List Value, us74.length = l72.length ∧ env = [(1, .int .u32 (hidden_1.toNat : Int)), (2, bp b1 0), (5, v73), (8, .int .i64 k_41), (9, .int .i64 s_62), (10, .int .i64 p_83)] ∧ x = ⟨m, hown 89 1 v73 l72.length us74 :: hrows 4 1 encB us74 l72 :: hcells b1 [.int .i64 m_0.n, .int .i64 m_0.users, .int .i64 m_0.acts, um_0_3, um_0_4] 69 :: l⟩ ∧ n = (m_0.n - p_83).toNat ∧ 0 ≤ p_83 ∧ forK (σ := (List (List Bool))) (fun i s nx_ => syllogistref_AlikeStates_b84 m_0 hidden_1 s_62 i s nx_) (fun s => syllogistref_AlikeStates_k80 nx64 s) n p_83 l72 = some r) _ ((0 : Int), l51) ⟨_, _, hw54, rfl, rfl, rfl, (by omega), hr⟩ ?_
            rintro n86 ⟨p_83, l72⟩ env x ⟨v73, us74, hw75, rfl, rfl, hnp_83, h0p_83, hr⟩
            cases n86 with
            | zero =>
              simp only [forK] at hr
              refine Tr.seq ?_
              refine Tr.seq ?_
              refine Tr.region_f (fun _ => false) ?_
              refine W.q rfl rfl rfl rfl (by decide) (Yd.mv rfl (.t rfl)) ?_
              refine W.q rfl rfl rfl rfl (by decide) (Yd.fldB rfl Try.underlying69 rfl SZ3 rfl (.t rfl)) ?_
              refine W.q rfl rfl rfl rfl (by decide) (Yd.ldB (pos := 2) rfl rfl rfl ON3 (.t rfl)) ?_
              refine W.q rfl rfl rfl rfl (by decide) (Yd.lss rfl (.t rfl) (.t rfl)) ?_
              refine W.end ?_
              refine NX.sub (env' := [(1, _), (2, _), (5, _), (8, _), (9, _), (10, _), (63, _)]) ⟨rfl, rfl, rfl, rfl, rfl, rfl, rfl, trivial⟩ ?_
              refine NX.then ?_
              refine Tr.cond (.t rfl) (fun hb => ?_) (fun hb => ?_)
              · exact absurd (hb.symm.trans (fr_end hnp_83)) (by decide)
              ·
                refine Tr.exit' (EX.then (EX.then (EX.block ?_)))
                refine NX.sub (env' := [(1, _), (2, _), (5, _), (8, _), (9, _)]) ⟨rfl, rfl, rfl, rfl, rfl, trivial⟩ ?_
                exact hk81 _ _ ⟨_, _, _, hw75, rfl, rfl, hr⟩
            | succ n86 =>
              obtain ⟨nx85, hnx85, hr⟩ := forK_succ hr
              try dsimp only at hr
              unfold syllogistref_AlikeStates_b84 at hr
              try dsimp only at hr
              have hltp_83 := fr_bnd hnp_83
              refine Tr.seq ?_
              refine Tr.seq ?_
              refine Tr.region_f (fun _ => false) ?_
              refine W.q rfl rfl rfl rfl (by decide) (Yd.mv rfl (.t rfl)) ?_
              refine W.q rfl rfl rfl rfl (by decide) (Yd.fldB rfl Try.underlying69 rfl SZ3 rfl (.t rfl)) ?_
              refine W.q rfl rfl rfl rfl (by decide) (Yd.ldB (pos := 2) rfl rfl rfl ON3 (.t rfl)) ?_
              refine W.q rfl rfl rfl rfl (by decide) (Yd.lss rfl (.t rfl) (.t rfl)) ?_
              refine W.end ?_
              refine NX.sub (env' := [(1, _), (2, _), (5, _), (8, _), (9, _), (10, _), (63, _)]) ⟨rfl, rfl, rfl, rfl, rfl, rfl, rfl, trivial⟩ ?_
              refine NX.then ?_
              refine Tr.cond (.t rfl) (fun hb => ?_) (fun hb => ?_)
              rotate_left
              · exact absurd (hb.symm.trans (fr_go hnp_83)) (by decide)
              ·
                refine Tr.skip' ?_
                refine NX.then ?_
                refine Tr.seq ?_
                refine Tr.block ?_
                refine Tr.seq ?_
                refine Tr.region_f (fun _ => false) ?_
                refine W.q rfl rfl rfl rfl (by decide) (Yd.as rfl .c) ?_
                refine W.end ?_
                refine NX.sub (env' := [(1, _), (2, _), (5, _), (8, _), (9, _), (10, _), (11, _)]) ⟨rfl, rfl, rfl, rfl, rfl, rfl, rfl, trivial⟩ ?_
                refine NX.then ?_
                refine Tr.join (S := fun env x => ∃ l97 : List (List Bool), ∃ v98 : Value, ∃ us99 : List Value, us99.length = l97.length ∧ env = [(1, .int .u32 (hidden_1.toNat : Int)), (2, bp b1 0), (5, v98), (8, .int .i64 k_41), (9, .int .i64 s_62), (10, .int .i64 p_83)] ∧ x = ⟨m, hown 89 1 v98 l97.length us99 :: hrows 4 1 encB us99 l97 :: hcells b1 [.int .i64 m_0.n, .int .i64 m_0.users, .int .i64 m_0.acts, um_0_3, um_0_4] 69 :: l⟩ ∧ syllogistref_AlikeStates_k101 nx85 l97 = some r) ?_ (fun hk102 => ?_)
                · rintro _ _ ⟨l97, v98, us99, hw100, rfl, rfl, hr⟩
                  unfold syllogistref_AlikeStates_k101 at hr
                  try dsimp only at hr
                  refine NX.block ?_
                  refine NX.then ?_
                  refine Tr.region_f (fun _ => false) ?_
                  refine W.q rfl rfl rfl rfl (by decide) (Yd.mv rfl (.t rfl)) ?_
                  refine W.q rfl rfl rfl rfl (by decide) (Yd.add rfl (.t rfl) .c) ?_
                  refine W.q rfl rfl rfl rfl (by decide) (Yd.as rfl (.t rfl)) ?_
                  refine W.end ?_
                  refine NX.sub (env' := [(1, _), (2, _), (5, _), (8, _), (9, _), (10, _)]) ⟨rfl, rfl, rfl, rfl, rfl, rfl, trivial⟩ ?_
                  refine NX.sub (env' := [(1, _), (2, _), (5, _), (8, _), (9, _), (10, _)]) ⟨rfl, rfl, rfl, rfl, rfl, rfl, trivial⟩ ?_
                  have hw := w64_id (n := p_83 + 1) (by omega) (by omega)
                  exact NX.again n86 (p_83 + 1, l97) (Nat.lt_succ_self _) ⟨_, _, hw100, (by rw [hw] <;> rfl), rfl, (fr_dec hnp_83), (by omega), ((hnx85 _).symm.trans hr)⟩
                obtain ⟨hle103, hr⟩ := guard_some hr; replace hle103 := of_decide_eq_true hle103
                refine Tr.block ?_
                refine Tr.sub (env' := [(1, _), (2, _), (5, _), (8, _), (9, _), (10, _), (11, _)]) ⟨rfl, rfl, rfl, rfl, rfl, rfl, rfl, trivial⟩ ?_
                refine Tr.loop (S := fun n (z : Int × (List (List Bool))) env x => match z with | (u_104, l93) => ∃ v94 : Value, ∃ us95 : List Value, us95.length = l93.length ∧ env = [(1, .int .u32 (hidden_1.toNat : Int)), (2, bp b1 0), (5, v94), (8, .int .i64 k_41), (9, .int .i64 s_62), (10, .int .i64 p_83), (11, .int .i64 u_104)] ∧ x = ⟨m, hown 89 1 v94 l93.length us95 :: hrows 4 1 encB us95 l93 :: hcells b1 [.int .i64 m_0.n, .int .i64 m_0.users, .int .i64 m_0.acts, um_0_3, um_0_4] 69 :: l⟩ ∧ n = (m_0.users - u_104).toNat ∧ 0 ≤ u_104 ∧ forK (σ := (List (List Bool))) (fun i s nx_ => syllogistref_AlikeStates_b105 m_0 hidden_1 s_62 p_83 i s nx_) (fun s => syllogistref_AlikeStates_k101 nx85 s) n u_104 l93 = some r) _ ((0 : Int), l72) ⟨_, _, hw75, rfl, rfl, rfl, (by omega), hr⟩ ?_
                rintro n107 ⟨u_104, l93⟩ env x ⟨v94, us95, hw96, rfl, rfl, hnu_104, h0u_104, hr⟩
                cases n107 with
                | zero =>
                  simp only [forK] at hr
                  refine Tr.seq ?_
                  refine Tr.seq ?_
                  refine Tr.region_f (fun _ => false) ?_
                  refine W.q rfl rfl rfl rfl (by decide) (Yd.mv rfl (.t rfl)) ?_
                  refine W.q rfl rfl rfl rfl (by decide) (Yd.fldB rfl Try.underlying69 rfl SZ3 rfl (.t rfl)) ?_
                  refine W.q rfl rfl rfl rfl (by decide) (Yd.ldB (pos := 2) rfl rfl rfl ON3 (.t rfl)) ?_
                  refine W.q rfl rfl rfl rfl (by decide) (Yd.lss rfl (.t rfl) (.t rfl)) ?_
                  refine W.end ?_
                  refine NX.sub (env' := [(1, _), (2, _), (5, _), (8, _), (9, _), (10, _), (11, _), (69, _)]) ⟨rfl, rfl, rfl, rfl, rfl, rfl, rfl, rfl, trivial⟩ ?_
                  refine NX.then ?_
                  refine Tr.cond (.t rfl) (fun hb => ?_) (fun hb => ?_)
                  · exact absurd (hb.symm.trans (fr_end hnu_104)) (by decide)
                  ·
                    refine Tr.exit' (EX.then (EX.then (EX.block ?_)))
                    refine NX.sub (env' := [(1, _), (2, _), (5, _), (8, _), (9, _), (10, _)]) ⟨rfl, rfl, rfl, rfl, rfl, rfl, trivial⟩ ?_
                    exact hk102 _ _ ⟨_, _, _, hw96, rfl, rfl, hr⟩
                | succ n107 =>
                  obtain ⟨nx106, hnx106, hr⟩ := forK_succ hr
                  try dsimp only at hr
                  unfold syllogistref_AlikeStates_b105 at hr
                  try dsimp only at hr
                  have hltu_104 := fr_bnd hnu_104
                  refine Tr.seq ?_
                  refine Tr.seq ?_
                  refine Tr.region_f (fun _ => false) ?_
                  refine W.q rfl rfl rfl rfl (by decide) (Yd.mv rfl (.t rfl)) ?_
                  refine W.q rfl rfl rfl rfl (by decide) (Yd.fldB rfl Try.underlying69 rfl SZ3 rfl (.t rfl)) ?_
                  refine W.q rfl rfl rfl rfl (by decide) (Yd.ldB (pos := 2) rfl rfl rfl ON3 (.t rfl)) ?_
                  refine W.q rfl rfl rfl rfl (by decide) (Yd.lss rfl (.t rfl) (.t rfl)) ?_
                  refine W.end ?_
                  refine NX.sub (env' := [(1, _), (2, _), (5, _), (8, _), (9, _), (10, _), (11, _), (69, _)]) ⟨rfl, rfl, rfl, rfl, rfl, rfl, rfl, rfl, trivial⟩ ?_
                  refine NX.then ?_
                  refine Tr.cond (.t rfl) (fun hb => ?_) (fun hb => ?_)
                  rotate_left
                  · exact absurd (hb.symm.trans (fr_go hnu_104)) (by decide)
                  ·
                    refine Tr.skip' ?_
                    refine NX.then ?_
                    refine Tr.seq ?_
                    refine Tr.block ?_
                    refine Tr.seq ?_
                    refine Tr.region_f (fun _ => false) ?_
                    refine W.q rfl rfl rfl rfl (by decide) (Yd.as rfl .c) ?_
                    refine W.end ?_
                    refine NX.sub (env' := [(1, _), (2, _), (5, _), (8, _), (9, _), (10, _), (11, _), (12, _)]) ⟨rfl, rfl, rfl, rfl, rfl, rfl, rfl, rfl, trivial⟩ ?_
                    refine NX.then ?_
                    refine Tr.join (S := fun env x => ∃ l118 : List (List Bool), ∃ v119 : Value, ∃ us120 : List Value, us120.length = l118.length ∧ env = [(1, .int .u32 (hidden_1.toNat : Int)), (2, bp b1 0), (5, v119), (8, .int .i64 k_41), (9, .int .i64 s_62), (10, .int .i64 p_83), (11, .int .i64 u_104)] ∧ x = ⟨m, hown 89 1 v119 l118.length us120 :: hrows 4 1 encB us120 l118 :: hcells b1 [.int .i64 m_0.n, .int .i64 m_0.users, .int .i64 m_0.acts, um_0_3, um_0_4] 69 :: l⟩ ∧ syllogistref_AlikeStates_k122 nx106 l118 = some r) ?_ (fun hk123 => ?_)
                    · rintro _ _ ⟨l118, v119, us120, hw121, rfl, rfl, hr⟩
                      unfold syllogistref_AlikeStates_k122 at hr
                      try dsimp only at hr
                      refine NX.block ?_
                      refine NX.then ?_
                      refine Tr.region_f (fun _ => false) ?_
                      refine W.q rfl rfl rfl rfl (by decide) (Yd.mv rfl (.t rfl)) ?_
                      refine W.q rfl rfl rfl rfl (by decide) (Yd.add rfl (.t rfl) .c) ?_
                      refine W.q rfl rfl rfl rfl (by decide) (Yd.as rfl (.t rfl)) ?_
                      refine W.end ?_
                      refine NX.sub (env' := [(1, _), (2, _), (5, _), (8, _), (9, _), (10, _), (11, _)]) ⟨rfl, rfl, rfl, rfl, rfl, rfl, rfl, trivial⟩ ?_
                      refine NX.sub (env' := [(1, _), (2, _), (5, _), (8, _), (9, _), (10, _), (11, _)]) ⟨rfl, rfl, rfl, rfl, rfl, rfl, rfl, trivial⟩ ?_
                      have hw := w64_id (n := u_104 + 1) (by omega) (by omega)
                      exact NX.again n107 (u_104 + 1, l118) (Nat.lt_succ_self _) ⟨_, _, hw121, (by rw [hw] <;> rfl), rfl, (fr_dec hnu_104), (by omega), ((hnx106 _).symm.trans hr)⟩
                    obtain ⟨hle124, hr⟩ := guard_some hr; replace hle124 := of_decide_eq_true hle124
                    refine Tr.block ?_
                    refine Tr.sub (env' := [(1, _), (2, _), (5, _), (8, _), (9, _), (10, _), (11, _), (12, _)]) ⟨rfl, rfl, rfl, rfl, rfl, rfl, rfl, rfl, trivial⟩ ?_
                    refine Tr.loop (S := fun n (z : Int × (List (List Bool))) env x => match z with | (a_125, l114) => ∃ v115 : Value, ∃ us116 : List Value, us116.length = l114.length ∧ env = [(1, .int .u32 (hidden_1.toNat : Int)), (2, bp b1 0), (5, v115), (8, .int .i64 k_41), (9, .int .i64 s_62), (10, .int .i64 p_83), (11, .int .i64 u_104), (12, .int .i64 a_125)] ∧ x = ⟨m, hown 89 1 v115 l114.length us116 :: hrows 4 1 encB us116 l114 :: hcells b1 [.int .i64 m_0.n, .int .i64 m_0.users, .int .i64 m_0.acts, um_0_3, um_0_4] 69 :: l⟩ ∧ n = (m_0.acts - a_125).toNat ∧ 0 ≤ a_125 ∧ forK (σ := (List (List Bool))) (fun i s nx_ => syllogistref_AlikeStates_b126 m_0 hidden_1 s_62 p_83 u_104 i s nx_) (fun s => syllogistref_AlikeStates_k122 nx106 s) n a_125 l114 = some r) _ ((0 : Int), l93) ⟨_, _, hw96, rfl, rfl, rfl, (by omega), hr⟩ ?_
                    rintro n128 ⟨a_125, l114⟩ env x ⟨v115, us116, hw117, rfl, rfl, hna_125, h0a_125, hr⟩
                    cases n128 with
                    | zero =>
                      simp only [forK] at hr
                      refine Tr.seq ?_
                      refine Tr.seq ?_
                      refine Tr.region_f (fun _ => false) ?_
                      refine W.q rfl rfl rfl rfl (by decide) (Yd.mv rfl (.t rfl)) ?_
                      refine W.q rfl rfl rfl rfl (by decide) (Yd.fldB rfl Try.underlying69 rfl SZ3 rfl (.t rfl)) ?_
                      refine W.q rfl rfl rfl rfl (by decide) (Yd.ldB (pos := 2) rfl rfl rfl ON3 (.t rfl)) ?_
                      refine W.q rfl rfl rfl rfl (by decide) (Yd.lss rfl (.t rfl) (.t rfl)) ?_
                      refine W.end ?_
                      refine NX.sub (env' := [(1, _), (2, _), (5, _), (8, _), (9, _), (10, _), (11, _), (12, _), (75, _)]) ⟨rfl, rfl, rfl, rfl, rfl, rfl, rfl, rfl, rfl, trivial⟩ ?_
                      refine NX.then ?_
                      refine Tr.cond (.t rfl) (fun hb => ?_) (fun hb => ?_)
                      · exact absurd (hb.symm.trans (fr_end hna_125)) (by decide)
                      ·
                        refine Tr.exit' (EX.then (EX.then (EX.block ?_)))
                        refine NX.sub (env' := [(1, _), (2, _), (5, _), (8, _), (9, _), (10, _), (11, _)]) ⟨rfl, rfl, rfl, rfl, rfl, rfl, rfl, trivial⟩ ?_
                        exact hk123 _ _ ⟨_, _, _, hw117, rfl, rfl, hr⟩
                    | succ n128 =>
                      obtain ⟨nx127, hnx127, hr⟩ := forK_succ hr
                      try dsimp only at hr
                      unfold syllogistref_AlikeStates_b126 at hr
                      try dsimp only at hr
                      have hlta_125 := fr_bnd hna_125
                      refine Tr.seq ?_
                      refine Tr.seq ?_
                      refine Tr.region_f (fun _ => false) ?_
                      refine W.q rfl rfl rfl rfl (by decide) (Yd.mv rfl (.t rfl)) ?_
                      refine W.q rfl rfl rfl rfl (by decide) (Yd.fldB rfl Try.underlying69 rfl SZ3 rfl (.t rfl)) ?_
                      refine W.q rfl rfl rfl rfl (by decide) (Yd.ldB (pos := 2) rfl rfl rfl ON3 (.t rfl)) ?_
                      refine W.q rfl rfl rfl rfl (by decide) (Yd.lss rfl (.t rfl) (.t rfl)) ?_
                      refine W.end ?_
                      refine NX.sub (env' := [(1, _), (2, _), (5, _), (8, _), (9, _), (10, _), (11, _), (12, _), (75, _)]) ⟨rfl, rfl, rfl, rfl, rfl, rfl, rfl, rfl, rfl, trivial⟩ ?_
                      refine NX.then ?_
                      refine Tr.cond (.t rfl) (fun hb => ?_) (fun hb => ?_)
                      rotate_left
                      · exact absurd (hb.symm.trans (fr_go hna_125)) (by decide)
                      ·
                        refine Tr.skip' ?_
                        refine NX.then ?_
                        refine Tr.seq ?_
                        refine Tr.block ?_
                        refine Tr.seq ?_
                        obtain ⟨r129, hr130, hr⟩ := bind_some hr
                        obtain ⟨ha131, hr⟩ := guard_some hr
                        obtain ⟨ha135, hr⟩ := guard_some hr
                        obtain ⟨ha139, hr⟩ := guard_some hr
                        obtain ⟨ha140, hr⟩ := guard_some hr
                        obtain ⟨ha143, hr⟩ := guard_some hr
                        obtain ⟨ha147, hr⟩ := guard_some hr
                        obtain ⟨ha151, hr⟩ := guard_some hr
                        obtain ⟨ha152, hr⟩ := guard_some hr
                        refine Tr.region_x (fun _ => false) (fun _ => false) (Ord.of [0, 1, 2, 3, 4, 5, 6, 7, 8, 9, 10, 11, 12, 13, 14, 15, 16, 17, 18, 19, 20, 21, 22, 23, 24, 25, 26, 27, 28, 29, 30, 31, 32, 33]) FM (by kernel_rfl) ?_
                        refine W.q rfl rfl rfl rfl (by decide) (Yd.mv rfl (.t rfl)) ?_
                        refine W.q rfl rfl rfl rfl (by decide) (Yd.mv rfl (.t rfl)) ?_
                        refine W.q rfl rfl rfl rfl (by decide) (Yd.call (v := .bool r129) rfl Try.func69 rfl rfl (.cons (.t rfl) (.cons (.t rfl) .nil)) (fun x' hx w hw => syllogistref_Bit_ok w0 x'.m x'.l hidden_1 u_104 _ hr130 w hw)) ?_
                        refine W.q rfl rfl rfl rfl (by decide) (Yd.not rfl (.t rfl)) ?_
                        refine W.q rfl rfl rfl rfl (by decide) (Yd.mv rfl (.t rfl)) ?_
                        refine W.g rfl rfl rfl rfl rfl (.t rfl _) rfl (by decide) (fun hG => Yd.mv rfl (.t rfl)) ?_
                        refine W.g rfl rfl rfl rfl rfl (.t rfl _) rfl (by decide) (fun hG => Yd.fldB rfl Try.underlying69 rfl SZ66 rfl (.t rfl)) ?_
                        refine W.g rfl rfl rfl rfl rfl (.t rfl _) rfl (by decide) (fun hG => Yd.ldB (pos := 2) rfl rfl rfl ON66 (.g rfl hG)) ?_
                        refine W.g rfl rfl rfl rfl rfl (.t rfl _) rfl (by decide) (fun hG => Yd.mv rfl (.t rfl)) ?_
                        refine W.g rfl rfl rfl rfl rfl (.t rfl _) rfl (by decide) (fun hG => Yd.idxR hm_0_3 (gd_get (d := []) ha131 hG) rfl Try.underlying66 SZ67 (.g rfl hG) (.g rfl hG)) ?_
                        obtain ⟨u132, hu133⟩ := RS.rowD hm_0_3 (i := s_62)
                        refine W.g rfl rfl rfl rfl rfl (.t rfl _) rfl (by decide) (fun hG => Yd.ldRow (hu133 _ (gd_get (d := []) ha131 hG)).2 (.refl _) rfl ON67 (.g rfl hG)) ?_
                        refine W.g rfl rfl rfl rfl rfl (.t rfl _) rfl (by decide) (fun hG => Yd.mv rfl (.t rfl)) ?_
                        refine W.g rfl rfl rfl rfl rfl (.t rfl _) rfl (by decide) (fun hG => Yd.idxR (hu133 _ (gd_get (d := []) ha131 hG)).1 (gd_get (d := []) ha135 hG) rfl Try.underlying67 SZ84 (.g rfl hG) (.g rfl hG)) ?_
                        obtain ⟨u136, hu137⟩ := RS.rowG (G := ((!r129) == true)) (fun hG => (hu133 _ (gd_get (d := []) ha131 hG)).1) (i := u_104)
                        refine W.g rfl rfl rfl rfl rfl (.t rfl _) rfl (by decide) (fun hG => Yd.ldRow (hu137 _ (gd_get (d := []) ha135 hG) hG).2 (.refl _) rfl ON84 (.g rfl hG)) ?_
                        refine W.g rfl rfl rfl rfl rfl (.t rfl _) rfl (by decide) (fun hG => Yd.mv rfl (.t rfl)) ?_
                        refine W.g rfl rfl rfl rfl rfl (.t rfl _) rfl (by decide) (fun hG => Yd.idxR (hu137 _ (gd_get (d := []) ha135 hG) hG).1 (gd_get (d := (0 : Int)) ha139 hG) rfl Try.underlying84 SZ3 (.g rfl hG) (.g rfl hG)) ?_
                        refine W.g rfl rfl rfl rfl rfl (.t rfl _) rfl (by decide) (fun hG => Yd.ldF (hu137 _ (gd_get (d := []) ha135 hG) hG).1 (.refl _) (gd_get (d := (0 : Int)) ha139 hG) rfl rfl ON3 (.g rfl hG)) ?_
                        refine W.g rfl rfl rfl rfl rfl (.t rfl _) rfl (by decide) (fun hG => Yd.idxO (pos := 0) (xs := l114) rfl (gd_get (d := []) ha140 hG) rfl Try.underlying87 SZ89 (.g rfl hG) (.g rfl hG)) ?_
                        obtain ⟨u141, hu142⟩ := us_getD hw117 (i := ((geti (((geti (((geti m_0.next s_62).getD [])) u_104).getD [])) a_125).getD (0 : Int)))
                        refine W.g rfl rfl rfl rfl rfl (.t rfl _) rfl (by decide) (fun hG => Yd.ldU (pos := 0) rfl (hu142 _ (gd_get (d := []) ha140 hG)) rfl ON89 (.g rfl hG)) ?_
                        refine W.g rfl rfl rfl rfl rfl (.t rfl _) rfl (by decide) (fun hG => Yd.fldB rfl Try.underlying69 rfl SZ66 rfl (.t rfl)) ?_
                        refine W.g rfl rfl rfl rfl rfl (.t rfl _) rfl (by decide) (fun hG => Yd.ldB (pos := 2) rfl rfl rfl ON66 (.g rfl hG)) ?_
                        refine W.g rfl rfl rfl rfl rfl (.t rfl _) rfl (by decide) (fun hG => Yd.mv rfl (.t rfl)) ?_
                        refine W.g rfl rfl rfl rfl rfl (.t rfl _) rfl (by decide) (fun hG => Yd.idxR hm_0_3 (gd_get (d := []) ha143 hG) rfl Try.underlying66 SZ67 (.g rfl hG) (.g rfl hG)) ?_
                        obtain ⟨u144, hu145⟩ := RS.rowD hm_0_3 (i := p_83)
                        refine W.g rfl rfl rfl rfl rfl (.t rfl _) rfl (by decide) (fun hG => Yd.ldRow (hu145 _ (gd_get (d := []) ha143 hG)).2 (.refl _) rfl ON67 (.g rfl hG)) ?_
                        refine W.g rfl rfl rfl rfl rfl (.t rfl _) rfl (by decide) (fun hG => Yd.mv rfl (.t rfl)) ?_
                        refine W.g rfl rfl rfl rfl rfl (.t rfl _) rfl (by decide) (fun hG => Yd.idxR (hu145 _ (gd_get (d := []) ha143 hG)).1 (gd_get (d := []) ha147 hG) rfl Try.underlying67 SZ84 (.g rfl hG) (.g rfl hG)) ?_
                        obtain ⟨u148, hu149⟩ := RS.rowG (G := ((!r129) == true)) (fun hG => (hu145 _ (gd_get (d := []) ha143 hG)).1) (i := u_104)
                        refine W.g rfl rfl rfl rfl rfl (.t rfl _) rfl (by decide) (fun hG => Yd.ldRow (hu149 _ (gd_get (d := []) ha147 hG) hG).2 (.refl _) rfl ON84 (.g rfl hG)) ?_
                        refine W.g rfl rfl rfl rfl rfl (.t rfl _) rfl (by decide) (fun hG => Yd.mv rfl (.t rfl)) ?_
                        refine W.g rfl rfl rfl rfl rfl (.t rfl _) rfl (by decide) (fun hG => Yd.idxR (hu149 _ (gd_get (d := []) ha147 hG) hG).1 (gd_get (d := (0 : Int)) ha151 hG) rfl Try.underlying84 SZ3 (.g rfl hG) (.g rfl hG)) ?_
                        refine W.g rfl rfl rfl rfl rfl (.t rfl _) rfl (by decide) (fun hG => Yd.ldF (hu149 _ (gd_get (d := []) ha147 hG) hG).1 (.refl _) (gd_get (d := (0 : Int)) ha151 hG) rfl rfl ON3 (.g rfl hG)) ?_
                        refine W.g rfl rfl rfl rfl rfl (.t rfl _) rfl (by decide) (fun hG => Yd.idxM (pos := 1) rfl (hu142 _ (gd_get (d := []) ha140 hG)) (gd_get (d := []) ha140 hG) (gd_get (d := false) ha152 hG) rfl Try.underlying89 SZ4 (.g rfl hG) (.g rfl hG)) ?_
                        refine W.g rfl rfl rfl rfl rfl (.t rfl _) rfl (by decide) (fun hG => Yd.ldM (enc := encB) (n := 1) (pos := 1) (fun _ => rfl) rfl (hu142 _ (gd_get (d := []) ha140 hG)) (gd_get (d := []) ha140 hG) (gd_get (d := false) ha152 hG) rfl rfl ON4 (.g rfl hG)) ?_
                        refine W.g rfl rfl rfl rfl rfl (.t rfl _) rfl (by decide) (fun hG => Yd.not rfl (.g rfl hG)) ?_
                        refine W.q rfl rfl rfl rfl (by decide) (Yd.and rfl (.t rfl) .c rfl rfl) ?_
                        refine W.end ?_
                        refine NX.sub (env' := [(1, _), (2, _), (5, _), (8, _), (9, _), (10, _), (11, _), (12, _), (111, _)]) ⟨rfl, rfl, rfl, rfl, rfl, rfl, rfl, rfl, rfl, trivial⟩ ?_
                        refine NX.then ?_
                        refine Tr.cond (.t rfl) (fun hb => ?_) (fun hb => ?_)
                        · have hr := cond_t hb hr
                          obtain ⟨y153, hy154, hr⟩ := bind_some hr
                          obtain ⟨y157, hy158, hr⟩ := bind_some hr
                          refine Tr.region_f (fun i => Nat.beq i 6) ?_
                          refine W.q rfl rfl rfl rfl (by decide) (Yd.mv rfl (.t rfl)) ?_
                          refine W.q rfl rfl rfl rfl (by decide) (Yd.mv rfl (.t rfl)) ?_
                          refine W.q rfl rfl rfl rfl (by decide) (Yd.idxO (pos := 0) (xs := l114) rfl hy154 rfl Try.underlying87 SZ89 (.t rfl) (.t rfl)) ?_
                          obtain ⟨u155, hu156⟩ := us_get hw117 hy154
                          refine W.q rfl rfl rfl rfl (by decide) (Yd.ldU (pos := 0) rfl hu156 rfl ON89 (.t rfl)) ?_
                          refine W.q rfl rfl rfl rfl (by decide) (Yd.mv rfl (.t rfl)) ?_
                          refine W.q rfl rfl rfl rfl (by decide) (Yd.idxM (pos := 1) rfl hu156 hy154 hy158 rfl Try.underlying89 SZ4 (.t rfl) (.t rfl)) ?_
                          refine W.s rfl rfl rfl rfl (Ef.stM (enc := encB) (n := 1) (pos0 := 0) (pos := 1) (y := false) (us' := [_]) (fun _ => rfl) rfl rfl hu156 hy154 hy158 rfl (.t rfl) .c SZ4 rfl rfl rfl (by decide)) ?_
                          rintro _ _ ⟨rfl, rfl⟩
                          refine ⟨.inl rfl, ?_⟩
                          refine W.cast (m' := m) (l' := hown 89 1 v115 _ _ :: hrows 4 1 encB _ _ :: hcells b1 [_, _, _, _, _] 69 :: l) rfl rfl ?_
                          refine W.end ?_
                          refine NX.sub (env' := [(1, _), (2, _), (5, _), (8, _), (9, _), (10, _), (11, _), (12, _)]) ⟨rfl, rfl, rfl, rfl, rfl, rfl, rfl, rfl, trivial⟩ ?_
                          refine NX.block ?_
                          refine NX.then ?_
                          refine Tr.region_f (fun _ => false) ?_
                          refine W.q rfl rfl rfl rfl (by decide) (Yd.mv rfl (.t rfl)) ?_
                          refine W.q rfl rfl rfl rfl (by decide) (Yd.add rfl (.t rfl) .c) ?_
                          refine W.q rfl rfl rfl rfl (by decide) (Yd.as rfl (.t rfl)) ?_
                          refine W.end ?_
                          refine NX.sub (env' := [(1, _), (2, _), (5, _), (8, _), (9, _), (10, _), (11, _), (12, _)]) ⟨rfl, rfl, rfl, rfl, rfl, rfl, rfl, rfl, trivial⟩ ?_
                          refine NX.sub (env' := [(1, _), (2, _), (5, _), (8, _), (9, _), (10, _), (11, _), (12, _)]) ⟨rfl, rfl, rfl, rfl, rfl, rfl, rfl, rfl, trivial⟩ ?_
                          have hw := w64_id (n := a_125 + 1) (by omega) (by omega)
                          exact NX.again n128 (a_125 + 1, (l114.set s_62.toNat (y153.set p_83.toNat false))) (Nat.lt_succ_self _) ⟨_, _, (setM hw117), (by rw [hw] <;> rfl), rfl, (fr_dec hna_125), (by omega), ((hnx127 _).symm.trans hr)⟩
                        · have hr := cond_f hb hr
                          refine Tr.skip' ?_
                          refine NX.block ?_
                          refine NX.then ?_
                          refine Tr.region_f (fun _ => false) ?_
                          refine W.q rfl rfl rfl rfl (by decide) (Yd.mv rfl (.t rfl)) ?_
                          refine W.q rfl rfl rfl rfl (by decide) (Yd.add rfl (.t rfl) .c) ?_
                          refine W.q rfl rfl rfl rfl (by decide) (Yd.as rfl (.t rfl)) ?_
                          refine W.end ?_
                          refine NX.sub (env' := [(1, _), (2, _), (5, _), (8, _), (9, _), (10, _), (11, _), (12, _)]) ⟨rfl, rfl, rfl, rfl, rfl, rfl, rfl, rfl, trivial⟩ ?_
                          refine NX.sub (env' := [(1, _), (2, _), (5, _), (8, _), (9, _), (10, _), (11, _), (12, _)]) ⟨rfl, rfl, rfl, rfl, rfl, rfl, rfl, rfl, trivial⟩ ?_
                          have hw := w64_id (n := a_125 + 1) (by omega) (by omega)
                          exact NX.again n128 (a_125 + 1, l114) (Nat.lt_succ_self _) ⟨_, _, hw117, (by rw [hw] <;> rfl), rfl, (fr_dec hna_125), (by omega), ((hnx127 _).symm.trans hr)⟩
  obtain ⟨hle159, hr⟩ := guard_some hr; replace hle159 := of_decide_eq_true hle159
  refine Tr.block ?_
  refine Tr.sub (env' := [(1, _), (2, _), (5, _), (6, _)]) ⟨rfl, rfl, rfl, rfl, trivial⟩ ?_
  refine Tr.loop (S := fun n (z : Int × (List (List Bool))) env x => match z with | (s_160, l12) => ∃ v13 : Value, ∃ us14 : List Value, us14.length = l12.length ∧ env = [(1, .int .u32 (hidden_1.toNat : Int)), (2, bp b1 0), (5, v13), (6, .int .i64 s_160)] ∧ x = ⟨m, hown 89 1 v13 l12.length us14 :: hrows 4 1 encB us14 l12 :: hcells b1 [.int .i64 m_0.n, .int .i64 m_0.users, .int .i64 m_0.acts, um_0_3, um_0_4] 69 :: l⟩ ∧ n = (m_0.n - s_160).toNat ∧ 0 ≤ s_160 ∧ forK (σ := (List (List Bool))) (fun i s nx_ => syllogistref_AlikeStates_b161 m_0 hidden_1 i s nx_) (fun s => syllogistref_AlikeStates_k20 m_0 hidden_1 s) n s_160 l12 = some r) _ ((0 : Int), (List.replicate m_0.n.toNat ([] : List Bool))) ⟨_, _, (lenRep : (List.replicate m_0.n.toNat (Value.slice none 0 0)).length = (List.replicate m_0.n.toNat ([] : List Bool)).length), rfl, rfl, rfl, (by omega), hr⟩ ?_
  rintro n163 ⟨s_160, l12⟩ env x ⟨v13, us14, hw15, rfl, rfl, hns_160, h0s_160, hr⟩
  cases n163 with
  | zero =>
    simp only [forK] at hr
    refine Tr.seq ?_
    refine Tr.seq ?_
    refine Tr.region_f (fun _ => false) ?_
    refine W.q rfl rfl rfl rfl (by decide) (Yd.mv rfl (.t rfl)) ?_
    refine W.q rfl rfl rfl rfl (by decide) (Yd.fldB rfl Try.underlying69 rfl SZ3 rfl (.t rfl)) ?_
    refine W.q rfl rfl rfl rfl (by decide) (Yd.ldB (pos := 2) rfl rfl rfl ON3 (.t rfl)) ?_
    refine W.q rfl rfl rfl rfl (by decide) (Yd.lss rfl (.t rfl) (.t rfl)) ?_
    refine W.end ?_
    refine NX.sub (env' := [(1, _), (2, _), (5, _), (6, _), (19, _)]) ⟨rfl, rfl, rfl, rfl, rfl, trivial⟩ ?_
    refine NX.then ?_
    refine Tr.cond (.t rfl) (fun hb => ?_) (fun hb => ?_)
    · exact absurd (hb.symm.trans (fr_end hns_160)) (by decide)
    ·
      refine Tr.exit' (EX.then (EX.then (EX.block ?_)))
      refine NX.sub (env' := [(1, _), (2, _), (5, _)]) ⟨rfl, rfl, rfl, trivial⟩ ?_
      exact hk21 _ _ ⟨_, _, _, hw15, rfl, rfl, hr⟩
  | succ n163 =>
    obtain ⟨nx162, hnx162, hr⟩ := forK_succ hr
    try dsimp only at hr
    unfold syllogistref_AlikeStates_b161 at hr
    try dsimp only at hr
    have hlts_160 := fr_bnd hns_160
    refine Tr.seq ?_
    refine Tr.seq ?_
    refine Tr.region_f (fun _ => false) ?_
    refine W.q rfl rfl rfl rfl (by decide) (Yd.mv rfl (.t rfl)) ?_
    refine W.q rfl rfl rfl rfl (by decide) (Yd.fldB rfl Try.underlying69 rfl SZ3 rfl (.t rfl)) ?_
    refine W.q rfl rfl rfl rfl (by decide) (Yd.ldB (pos := 2) rfl rfl rfl ON3 (.t rfl)) ?_
    refine W.q rfl rfl rfl rfl (by decide) (Yd.lss rfl (.t rfl) (.t rfl)) ?_
    refine W.end ?_
    refine NX.sub (env' := [(1, _), (2, _), (5, _), (6, _), (19, _)]) ⟨rfl, rfl, rfl, rfl, rfl, trivial⟩ ?_
    refine NX.then ?_
    refine Tr.cond (.t rfl) (fun hb => ?_) (fun hb => ?_)
    rotate_left
    · exact absurd (hb.symm.trans (fr_go hns_160)) (by decide)
    ·
      refine Tr.skip' ?_
      refine NX.then ?_
      refine Tr.seq ?_
      refine Tr.block ?_
      refine Tr.seq ?_
      obtain ⟨hq164, hr⟩ := guard_some hr; replace hq164 := of_decide_eq_true hq164
      obtain ⟨y167, hy168, hr⟩ := bind_some hr
      refine Tr.region_f (fun i => Nat.beq i 4 || Nat.beq i 6) ?_
      refine W.q rfl rfl rfl rfl (by decide) (Yd.mv rfl (.t rfl)) ?_
      refine W.q rfl rfl rfl rfl (by decide) (Yd.mv rfl (.t rfl)) ?_
      refine W.q rfl rfl rfl rfl (by decide) (Yd.fldB rfl Try.underlying69 rfl SZ3 rfl (.t rfl)) ?_
      refine W.q rfl rfl rfl rfl (by decide) (Yd.ldB (pos := 2) rfl rfl rfl ON3 (.t rfl)) ?_
      refine W.e rfl rfl rfl rfl (by decide) (Ef.mkT (enc := encB) false IF4 rfl Try.underlying89 rfl rfl (by decide) (.t rfl) (.t rfl) (by omega) (by omega) (by omega)) ?_
      rintro v165 _ rfl
      refine ⟨.inl rfl, ?_⟩
      refine W.cast (m' := m) (l' := hownT 4 1 encB v165 _ :: hown 89 1 v13 _ _ :: hrows 4 1 encB _ _ :: hcells b1 [_, _, _, _, _] 69 :: l) rfl rfl ?_
      refine W.q rfl rfl rfl rfl (by decide) (Yd.idxO (pos := 1) (xs := l12) rfl hy168 rfl Try.underlying87 SZ89 (.t rfl) (.t rfl)) ?_
      refine W.s rfl rfl rfl rfl (Ef.stR (pos := 1) (pos2 := 0) (xss := l12) ((List.replicate m_0.n.toNat false)) rfl rfl hy168 hw15 rfl (.t rfl) (.t rfl) SZ89) ?_
      rintro _ _ ⟨rfl, rfl⟩
      refine ⟨.inl rfl, ?_⟩
      refine W.cast (m' := m) (l' := hownT 4 1 encB v165 _ :: hown 89 1 v13 _ _ :: hrows 4 1 encB _ _ :: hcells b1 [_, _, _, _, _] 69 :: l) rfl rfl ?_
      refine W.end ?_
      refine NX.imp (fun w hw => cX_setM (po := 0) (pr := 1) (i := s_160.toNat) rfl rfl (geti_some hy168).2.2 hw) ?_
      refine NX.cast (m' := m) (l' := hown 89 1 v13 _ _ :: hrows 4 1 encB _ _ :: hcells b1 [_, _, _, _, _] 69 :: l) rfl rfl ?_
      refine NX.sub (env' := [(1, _), (2, _), (5, _), (6, _)]) ⟨rfl, rfl, rfl, rfl, trivial⟩ ?_
      refine NX.then ?_
      refine Tr.seq ?_
      refine Tr.region_f (fun _ => false) ?_
      refine W.q rfl rfl rfl rfl (by decide) (Yd.as rfl .c) ?_
      refine W.end ?_
      refine NX.sub (env' := [(1, _), (2, _), (5, _), (6, _), (7, _)]) ⟨rfl, rfl, rfl, rfl, rfl, trivial⟩ ?_
      refine NX.then ?_
      refine Tr.join (S := fun env x => ∃ l179 : List (List Bool), ∃ v180 : Value, ∃ us181 : List Value, us181.length = l179.length ∧ env = [(1, .int .u32 (hidden_1.toNat : Int)), (2, bp b1 0), (5, v180), (6, .int .i64 s_160)] ∧ x = ⟨m, hown 89 1 v180 l179.length us181 :: hrows 4 1 encB us181 l179 :: hcells b1 [.int .i64 m_0.n, .int .i64 m_0.users, .int .i64 m_0.acts, um_0_3, um_0_4] 69 :: l⟩ ∧ syllogistref_AlikeStates_k183 nx162 l179 = some r) ?_ (fun hk184 => ?_)
      · rintro _ _ ⟨l179, v180, us181, hw182, rfl, rfl, hr⟩
        unfold syllogistref_AlikeStates_k183 at hr
        try dsimp only at hr
        refine NX.block ?_
        refine NX.then ?_
        refine Tr.region_f (fun _ => false) ?_
        refine W.q rfl rfl rfl rfl (by decide) (Yd.mv rfl (.t rfl)) ?_
        refine W.q rfl rfl rfl rfl (by decide) (Yd.add rfl (.t rfl) .c) ?_
        refine W.q rfl rfl rfl rfl (by decide) (Yd.as rfl (.t rfl)) ?_
        refine W.end ?_
        refine NX.sub (env' := [(1, _), (2, _), (5, _), (6, _)]) ⟨rfl, rfl, rfl, rfl, trivial⟩ ?_
        refine NX.sub (env' := [(1, _), (2, _), (5, _), (6, _)]) ⟨rfl, rfl, rfl, rfl, trivial⟩ ?_
        have hw := w64_id (n := s_160 + 1) (by omega) (by omega)
        exact NX.again n163 (s_160 + 1, l179) (Nat.lt_succ_self _) ⟨_, _, hw182, (by rw [hw] <;> rfl), rfl, (fr_dec hns_160), (by omega), ((hnx162 _).symm.trans hr)⟩
      obtain ⟨hle185, hr⟩ := guard_some hr; replace hle185 := of_decide_eq_true hle185
      refine Tr.block ?_
      refine Tr.sub (env' := [(1, _), (2, _), (5, _), (6, _), (7, _)]) ⟨rfl, rfl, rfl, rfl, rfl, trivial⟩ ?_
      refine Tr.loop (S := fun n (z : Int × (List (List Bool))) env x => match z with | (p_186, l175) => ∃ v176 : Value, ∃ us177 : List Value, us177.length = l175.length ∧ env = [(1, .int .u32 (hidden_1.toNat : Int)), (2, bp b1 0), (5, v176), (6, .int .i64 s_160), (7, .int .i64 p_186)] ∧ x = ⟨m, hown 89 1 v176 l175.length us177 :: hrows 4 1 encB us177 l175 :: hcells b1 [.int .i64 m_0.n, .int .i64 m_0.users, .int .i64 m_0.acts, um_0_3, um_0_4] 69 :: l⟩ ∧ n = (m_0.n - p_186).toNat ∧ 0 ≤ p_186 ∧ forK (σ := (List (List Bool))) (fun i s nx_ => syllogistref_AlikeStates_b187 m_0 hidden_1 s_160 i s nx_) (fun s => syllogistref_AlikeStates_k183 nx162 s) n p_186 l175 = some r) _ ((0 : Int), (l12.set s_160.toNat ((List.replicate m_0.n.toNat false)))) ⟨_, _, (lenSet hw15), rfl, rfl, rfl, (by omega), hr⟩ ?_
      rintro n189 ⟨p_186, l175⟩ env x ⟨v176, us177, hw178, rfl, rfl, hnp_186, h0p_186, hr⟩
      cases n189 with
      | zero =>
        simp only [forK] at hr
        refine Tr.seq ?_
        refine Tr.seq ?_
        refine Tr.region_f (fun _ => false) ?_
        refine W.q rfl rfl rfl rfl (by decide) (Yd.mv rfl (.t rfl)) ?_
        refine W.q rfl rfl rfl rfl (by decide) (Yd.fldB rfl Try.underlying69 rfl SZ3 rfl (.t rfl)) ?_
        refine W.q rfl rfl rfl rfl (by decide) (Yd.ldB (pos := 2) rfl rfl rfl ON3 (.t rfl)) ?_
        refine W.q rfl rfl rfl rfl (by decide) (Yd.lss rfl (.t rfl) (.t rfl)) ?_
        refine W.end ?_
        refine NX.sub (env' := [(1, _), (2, _), (5, _), (6, _), (7, _), (31, _)]) ⟨rfl, rfl, rfl, rfl, rfl, rfl, trivial⟩ ?_
        refine NX.then ?_
        refine Tr.cond (.t rfl) (fun hb => ?_) (fun hb => ?_)
        · exact absurd (hb.symm.trans (fr_end hnp_186)) (by decide)
        ·
          refine Tr.exit' (EX.then (EX.then (EX.block ?_)))
          refine NX.sub (env' := [(1, _), (2, _), (5, _), (6, _)]) ⟨rfl, rfl, rfl, rfl, trivial⟩ ?_
          exact hk184 _ _ ⟨_, _, _, hw178, rfl, rfl, hr⟩
      | succ n189 =>
        obtain ⟨nx188, hnx188, hr⟩ := forK_succ hr
        try dsimp only at hr
        unfold syllogistref_AlikeStates_b187 at hr
        try dsimp only at hr
        have hltp_186 := fr_bnd hnp_186
        refine Tr.seq ?_
        refine Tr.seq ?_
        refine Tr.region_f (fun _ => false) ?_
        refine W.q rfl rfl rfl rfl (by decide) (Yd.mv rfl (.t rfl)) ?_
        refine W.q rfl rfl rfl rfl (by decide) (Yd.fldB rfl Try.underlying69 rfl SZ3 rfl (.t rfl)) ?_
        refine W.q rfl rfl rfl rfl (by decide) (Yd.ldB (pos := 2) rfl rfl rfl ON3 (.t rfl)) ?_
        refine W.q rfl rfl rfl rfl (by decide) (Yd.lss rfl (.t rfl) (.t rfl)) ?_
        refine W.end ?_
        refine NX.sub (env' := [(1, _), (2, _), (5, _), (6, _), (7, _), (31, _)]) ⟨rfl, rfl, rfl, rfl, rfl, rfl, trivial⟩ ?_
        refine NX.then ?_
        refine Tr.cond (.t rfl) (fun hb => ?_) (fun hb => ?_)
        rotate_left
        · exact absurd (hb.symm.trans (fr_go hnp_186)) (by decide)
        ·
          refine Tr.skip' ?_
          refine NX.then ?_
          refine Tr.seq ?_
          refine Tr.block ?_
          obtain ⟨y190, hy191, hr⟩ := bind_some hr
          obtain ⟨r194, hr195, hr⟩ := bind_some hr
          obtain ⟨y196, hy197, hr⟩ := bind_some hr
          refine Tr.region_x (fun i => Nat.beq i 11) (fun i => Nat.beq i 11) (Ord.of [0, 1, 2, 3, 4, 5, 6, 7, 8, 9, 10, 11]) FM (by kernel_rfl) ?_
          refine W.q rfl rfl rfl rfl (by decide) (Yd.mv rfl (.t rfl)) ?_
          refine W.q rfl rfl rfl rfl (by decide) (Yd.mv rfl (.t rfl)) ?_
          refine W.q rfl rfl rfl rfl (by decide) (Yd.idxO (pos := 0) (xs := l175) rfl hy191 rfl Try.underlying87 SZ89 (.t rfl) (.t rfl)) ?_
          obtain ⟨u192, hu193⟩ := us_get hw178 hy191
          refine W.q rfl rfl rfl rfl (by decide) (Yd.ldU (pos := 0) rfl hu193 rfl ON89 (.t rfl)) ?_
          refine W.q rfl rfl rfl rfl (by decide) (Yd.mv rfl (.t rfl)) ?_
          refine W.q rfl rfl rfl rfl (by decide) (Yd.ldBs (pos := 2) (us := [_, _, _, _, _]) rfl rfl rfl rfl ON69 US69 SZ69 (.t rfl)) ?_
          refine W.q rfl rfl rfl rfl (by decide) (Yd.mv rfl (.t rfl)) ?_
          refine W.q rfl rfl rfl rfl (by decide) (Yd.mv rfl (.t rfl)) ?_
          refine W.q rfl rfl rfl rfl (by decide) (Yd.mv rfl (.t rfl)) ?_
          refine W.q rfl rfl rfl rfl (by decide) (Yd.call (v := .bool r194) rfl Try.func68 rfl rfl (.cons (.t rfl) (.cons (.t rfl) (.cons (.t rfl) (.cons (.t rfl) .nil)))) (fun x' hx w hw => syllogistref_Sees_ok w0 x'.m x'.l _ _ (hm_0_3.mono hx.1) _ (hm_0_4.mono hx.1) hidden_1 s_160 p_186 _ hr195 w hw)) ?_
          refine W.q rfl rfl rfl rfl (by decide) (Yd.idxM (pos := 1) rfl hu193 hy191 hy197 rfl Try.underlying89 SZ4 (.t rfl) (.t rfl)) ?_
          refine W.s rfl rfl rfl rfl (Ef.stM (enc := encB) (n := 1) (pos0 := 0) (pos := 1) (y := r194) (us' := [_]) (fun _ => rfl) rfl rfl hu193 hy191 hy197 rfl (.t rfl) (.t rfl) SZ4 rfl rfl rfl (by decide)) ?_
          rintro _ _ ⟨rfl, rfl⟩
          refine ⟨.inl rfl, ?_⟩
          refine W.cast (m' := m) (l' := hown 89 1 v176 _ _ :: hrows 4 1 encB _ _ :: hcells b1 [_, _, _, _, _] 69 :: l) rfl rfl ?_
          refine W.end ?_
          refine NX.sub (env' := [(1, _), (2, _), (5, _), (6, _), (7, _)]) ⟨rfl, rfl, rfl, rfl, rfl, trivial⟩ ?_
          refine NX.block ?_
          refine NX.then ?_
          refine Tr.region_f (fun _ => false) ?_
          refine W.q rfl rfl rfl rfl (by decide) (Yd.mv rfl (.t rfl)) ?_
          refine W.q rfl rfl rfl rfl (by decide) (Yd.add rfl (.t rfl) .c) ?_
          refine W.q rfl rfl rfl rfl (by decide) (Yd.as rfl (.t rfl)) ?_
          refine W.end ?_
          refine NX.sub (env' := [(1, _), (2, _), (5, _), (6, _), (7, _)]) ⟨rfl, rfl, rfl, rfl, rfl, trivial⟩ ?_
          refine NX.sub (env' := [(1, _), (2, _), (5, _), (6, _), (7, _)]) ⟨rfl, rfl, rfl, rfl, rfl, trivial⟩ ?_
          have hw := w64_id (n := p_186 + 1) (by omega) (by omega)
          exact NX.again n189 (p_186 + 1, (l175.set s_160.toNat (y190.set p_186.toNat r194))) (Nat.lt_succ_self _) ⟨_, _, (setM hw178), (by rw [hw] <;> rfl), rfl, (fr_dec hnp_186), (by omega), ((hnx188 _).symm.trans hr)⟩

def syllogistlaw_ViewParts_k17 (m_0 : Machine) (r3 : (List Int) × Int) : Option (Bool) :=
  some (((r3.2 == (0 : Int)) && ((r3.1.length : Int) == m_0.n)))

def syllogistlaw_ViewParts_k25 (r3 : (List Int) × Int) (s_16 : Int) (nx20 : (Int → Option (Bool))) (p_24 : Int) : Option (Bool) :=
  (geti r3.1 s_16).bind fun y27 =>
  (bif (y27 != p_24) then
  some false
  else
  nx20 (w64 (s_16 + (1 : Int))))

def syllogistlaw_ViewParts_b29 (r3 : (List Int) × Int) (r10 : (List (List Bool))) (s_16 : Int) (nx20 : (Int → Option (Bool))) (p_23 : Int) (nx30 : Int → Option (Bool)) : Option (Bool) :=
  (geti r10 s_16).bind fun y32 =>
  (geti y32 p_23).bind fun y37 =>
  (bif (!y37) then
  nx30 (w64 (p_23 + (1 : Int)))
  else
  syllogistlaw_ViewParts_k25 r3 s_16 nx20 p_23)

def syllogistlaw_ViewParts_b19 (m_0 : Machine) (fuel : Nat) (r3 : (List Int) × Int) (r10 : (List (List Bool))) (s_16 : Int) (nx20 : Int → Option (Bool)) : Option (Bool) :=
  (bif ((decide (s_16 < m_0.n)) && (decide (s_16 < (r3.1.length : Int)))) then
  whileK (σ := Int) (fun s nx_ => syllogistlaw_ViewParts_b29 r3 r10 s_16 nx20 s nx_) fuel ((0 : Int))
  else
  syllogistlaw_ViewParts_k17 m_0 r3)

def syllogistlaw_ViewParts (fuel : Nat) (m_0 : Machine) (hidden_1 : (BitVec 32)) : Option (Bool) :=
  (view_Parts fuel (({ n := m_0.n, users := m_0.users, acts := m_0.acts, next := m_0.next, sees := m_0.sees } : Machine)) hidden_1).bind fun r3 =>
  (syllogistlaw_hiddenCode (({ n := m_0.n, users := m_0.users, acts := m_0.acts, next := m_0.next, sees := m_0.sees } : Machine)) hidden_1).bind fun r8 =>
  (bif (r8 != (0 : Int)) then
  some (((r3.2 == r8) && ((r3.1.length : Int) == (0 : Int))))
  else
  (syllogistref_AlikeStates (({ n := m_0.n, users := m_0.users, acts := m_0.acts, next := m_0.next, sees := m_0.sees } : Machine)) hidden_1).bind fun r10 =>
  whileK (σ := Int) (fun s nx_ => syllogistlaw_ViewParts_b19 m_0 fuel r3 r10 s nx_) fuel ((0 : Int)))

set_option maxRecDepth 100000 in
set_option maxHeartbeats 4000000 in
theorem syllogistlaw_ViewParts_ok (w0 : World) (m : Snap) (l : List HI) (fuel : Nat) (m_0 : Machine) (um_0_3 : Value) (hm_0_3 : RS (Rp.slice (Rp.slice rI)) m um_0_3 m_0.next) (um_0_4 : Value) (hm_0_4 : RS (Rp.slice rI) m um_0_4 m_0.sees) (hidden_1 : (BitVec 32)) (r : Bool) (hr : syllogistlaw_ViewParts fuel m_0 hidden_1 = some r) (w : World) (hc : cX w0 ⟨m, l⟩ w) :
    Calls Try.prog 12 [.agg #[.int .i64 m_0.n, .int .i64 m_0.users, .int .i64 m_0.acts, um_0_3, um_0_4], .int .u32 (hidden_1.toNat : Int)].toArray w fun e w' => e = .returned (.bool r) ∧ cX w0 ⟨m, l⟩ w' := by
  unfold syllogistlaw_ViewParts at hr
  refine calls_of_Tr (N := 70) Try.func12 rfl hc rfl (Nat.le_of_ble_eq_true rfl) ?_
  refine Tr.seq ?_
  refine Tr.region_f (fun i => Nat.beq i 0) ?_
  refine W.e rfl rfl rfl rfl (by decide) (Ef.bx rfl (.t rfl) rfl) ?_
  rintro _ _ ⟨b1, rfl, rfl⟩
  refine ⟨.inl rfl, ?_⟩
  refine W.cast (m' := m) (l' := hcells b1 [_, _, _, _, _] 69 :: l) rfl rfl ?_
  refine W.q rfl rfl rfl rfl (by decide) (Yd.as rfl .c) ?_
  refine W.end ?_
  refine NX.sub (env' := [(1, _), (2, _)]) ⟨rfl, rfl, trivial⟩ ?_
  refine NX.then ?_
  refine Tr.seq ?_
  obtain ⟨r3, hr4, hr⟩ := bind_some hr
  refine Tr.region_f (fun i => Nat.beq i 2) ?_
  refine W.q rfl rfl rfl rfl (by decide) (Yd.ldBs (pos := 0) (us := [_, _, _, _, _]) rfl rfl rfl rfl ON69 US69 SZ69 (.t rfl)) ?_
  refine W.q rfl rfl rfl rfl (by decide) (Yd.mv rfl (.t rfl)) ?_
  refine W.e rfl rfl rfl rfl (by decide) (Ef.call (R := fun z x' => ∃ u5 : Value, ∃ m6 : Snap, z = .tuple #[u5, .int .i64 r3.2] ∧ x' = ⟨m6, hcells b1 [.int .i64 m_0.n, .int .i64 m_0.users, .int .i64 m_0.acts, um_0_3, um_0_4] 69 :: l⟩ ∧ Sle m m6 ∧ RS rI m6 u5 r3.1) rfl Try.func41 rfl rfl (.cons (.t rfl) (.cons (.t rfl) .nil)) (fun w hw => (view_Parts_ok w0 _ _ fuel _ _ hm_0_3 _ hm_0_4 hidden_1 _ hr4 w hw).mono fun e w' ⟨u5, m6, he, hm', hu7, hc'⟩ => ⟨_, _, he, ⟨u5, m6, rfl, rfl, hm', hu7⟩, hc'⟩)) ?_
  rintro _ _ ⟨u5, m6, rfl, rfl, hsm6, hu7⟩
  have hm_0_3 := hm_0_3.mono hsm6
  have hm_0_4 := hm_0_4.mono hsm6
  refine ⟨.inl rfl, ?_⟩
  refine W.cast (m' := m6) (l' := hcells b1 [_, _, _, _, _] 69 :: l) rfl rfl ?_
  refine W.q rfl rfl rfl rfl (by decide) (Yd.mv rfl (.t rfl)) ?_
  refine W.q rfl rfl rfl rfl (by decide) (Yd.ext rfl (.t rfl) rfl) ?_
  refine W.q rfl rfl rfl rfl (by decide) (Yd.ext rfl (.t rfl) rfl) ?_
  refine W.q rfl rfl rfl rfl (by decide) (Yd.as rfl (.t rfl)) ?_
  refine W.q rfl rfl rfl rfl (by decide) (Yd.as rfl (.t rfl)) ?_
  refine W.end ?_
  refine NX.sub (env' := [(1, _), (2, _), (5, _), (6, _)]) ⟨rfl, rfl, rfl, rfl, trivial⟩ ?_
  refine NX.then ?_
  refine Tr.seq ?_
  obtain ⟨r8, hr9, hr⟩ := bind_some hr
  refine Tr.region_f (fun _ => false) ?_
  refine W.q rfl rfl rfl rfl (by decide) (Yd.ldBs (pos := 0) (us := [_, _, _, _, _]) rfl rfl rfl rfl ON69 US69 SZ69 (.t rfl)) ?_
  refine W.q rfl rfl rfl rfl (by decide) (Yd.mv rfl (.t rfl)) ?_
  refine W.q rfl rfl rfl rfl (by decide) (Yd.call (v := .int .i64 r8) rfl Try.func38 rfl rfl (.cons (.t rfl) (.cons (.t rfl) .nil)) (fun x' hx w hw => syllogistlaw_hiddenCode_ok w0 x'.m x'.l _ _ (hm_0_3.mono hx.1) _ (hm_0_4.mono hx.1) hidden_1 _ hr9 w hw)) ?_
  refine W.q rfl rfl rfl rfl (by decide) (Yd.as rfl (.t rfl)) ?_
  refine W.end ?_
  refine NX.sub (env' := [(1, _), (2, _), (5, _), (6, _), (7, _)]) ⟨rfl, rfl, rfl, rfl, rfl, trivial⟩ ?_
  refine NX.then ?_
  refine Tr.seq ?_
  refine Tr.seq ?_
  refine Tr.region_f (fun _ => false) ?_
  refine W.q rfl rfl rfl rfl (by decide) (Yd.mv rfl (.t rfl)) ?_
  refine W.q rfl rfl rfl rfl (by decide) (Yd.neq rfl (.t rfl) .c) ?_
  refine W.end ?_
  refine NX.sub (env' := [(1, _), (2, _), (5, _), (6, _), (7, _), (21, _)]) ⟨rfl, rfl, rfl, rfl, rfl, rfl, trivial⟩ ?_
  refine NX.then ?_
  refine Tr.cond (.t rfl) (fun hb => ?_) (fun hb => ?_)
  · have hr := cond_t hb hr
    refine Tr.seq ?_
    refine Tr.region_f (fun _ => false) ?_
    refine W.q rfl rfl rfl rfl (by decide) (Yd.mv rfl (.t rfl)) ?_
    refine W.q rfl rfl rfl rfl (by decide) (Yd.mv rfl (.t rfl)) ?_
    refine W.q rfl rfl rfl rfl (by decide) (Yd.eql rfl (.t rfl) (.t rfl)) ?_
    refine W.q rfl rfl rfl rfl (by decide) (Yd.mv rfl (.t rfl)) ?_
    refine W.g rfl rfl rfl rfl rfl (.t rfl _) rfl (by decide) (fun hG => Yd.mv rfl (.t rfl)) ?_
    refine W.g rfl rfl rfl rfl rfl (.t rfl _) rfl (by decide) (fun hG => Yd.lenR hu7 rfl Try.underlying84 (.g rfl hG)) ?_
    refine W.g rfl rfl rfl rfl rfl (.t rfl _) rfl (by decide) (fun hG => Yd.eql rfl (.g rfl hG) .c) ?_
    refine W.q rfl rfl rfl rfl (by decide) (Yd.and rfl (.t rfl) .c rfl rfl) ?_
    refine W.q rfl rfl rfl rfl (by decide) (Yd.as rfl (.t rfl)) ?_
    refine W.end ?_
    refine NX.sub (env' := [(4, _)]) ⟨rfl, trivial⟩ ?_
    refine NX.drop (l' := l) (.cons _ (.refl _)) ?_
    refine NX.then ?_
    refine Tr.ret' (RT.then ?_)
    refine res1 rfl rfl ?_
    intro w hc
    cases hr
    exact ⟨rfl, (cX_le (x := ⟨m, _⟩) ⟨hsm6, [], rfl⟩ hc)⟩
  · have hr := cond_f hb hr
    refine Tr.skip' ?_
    refine NX.then ?_
    refine Tr.seq ?_
    obtain ⟨r10, hr11, hr⟩ := bind_some hr
    refine Tr.region_f (fun i => Nat.beq i 2) ?_
    refine W.q rfl rfl rfl rfl (by decide) (Yd.ldBs (pos := 0) (us := [_, _, _, _, _]) rfl rfl rfl rfl ON69 US69 SZ69 (.t rfl)) ?_
    refine W.q rfl rfl rfl rfl (by decide) (Yd.mv rfl (.t rfl)) ?_
    refine W.e rfl rfl rfl rfl (by decide) (Ef.call (R := fun z x' => ∃ u12 : Value, ∃ m13 : Snap, z = u12 ∧ x' = ⟨m13, hcells b1 [.int .i64 m_0.n, .int .i64 m_0.users, .int .i64 m_0.acts, um_0_3, um_0_4] 69 :: l⟩ ∧ Sle m6 m13 ∧ RS (Rp.slice rB) m13 u12 r10) rfl Try.func42 rfl rfl (.cons (.t rfl) (.cons (.t rfl) .nil)) (fun w hw => (syllogistref_AlikeStates_ok w0 _ _ _ _ hm_0_3 _ hm_0_4 hidden_1 _ hr11 w hw).mono fun e w' ⟨u12, m13, he, hm', hu14, hc'⟩ => ⟨_, _, he, ⟨u12, m13, rfl, rfl, hm', hu14⟩, hc'⟩)) ?_
    rintro u12 _ ⟨_, m13, rfl, rfl, hsm13, hu14⟩
    have hm_0_3 := hm_0_3.mono hsm13
    have hm_0_4 := hm_0_4.mono hsm13
    have hu7 := hu7.mono hsm13
    refine ⟨.inl rfl, ?_⟩
    refine W.cast (m' := m13) (l' := hcells b1 [_, _, _, _, _] 69 :: l) rfl rfl ?_
    refine W.q rfl rfl rfl rfl (by decide) (Yd.as rfl (.t rfl)) ?_
    refine W.end ?_
    refine NX.sub (env' := [(2, _), (5, _), (6, _), (8, _)]) ⟨rfl, rfl, rfl, rfl, trivial⟩ ?_
    refine NX.then ?_
    refine Tr.seq ?_
    refine Tr.seq ?_
    refine Tr.region_f (fun _ => false) ?_
    refine W.q rfl rfl rfl rfl (by decide) (Yd.as rfl .c) ?_
    refine W.end ?_
    refine NX.sub (env' := [(2, _), (5, _), (6, _), (8, _), (9, _)]) ⟨rfl, rfl, rfl, rfl, rfl, trivial⟩ ?_
    refine NX.then ?_
    refine Tr.join (S := fun env x => env = [(2, bp b1 0), (5, u5), (6, .int .i64 r3.2)] ∧ x = ⟨m13, hcells b1 [.int .i64 m_0.n, .int .i64 m_0.users, .int .i64 m_0.acts, um_0_3, um_0_4] 69 :: l⟩ ∧ syllogistlaw_ViewParts_k17 m_0 r3 = some r) ?_ (fun hk18 => ?_)
    · rintro _ _ ⟨rfl, rfl, hr⟩
      unfold syllogistlaw_ViewParts_k17 at hr
      try dsimp only at hr
      refine NX.then ?_
      refine Tr.seq ?_
      refine Tr.region_f (fun _ => false) ?_
      refine W.q rfl rfl rfl rfl (by decide) (Yd.mv rfl (.t rfl)) ?_
      refine W.q rfl rfl rfl rfl (by decide) (Yd.eql rfl (.t rfl) .c) ?_
      refine W.q rfl rfl rfl rfl (by decide) (Yd.mv rfl (.t rfl)) ?_
      refine W.g rfl rfl rfl rfl rfl (.t rfl _) rfl (by decide) (fun hG => Yd.mv rfl (.t rfl)) ?_
      refine W.g rfl rfl rfl rfl rfl (.t rfl _) rfl (by decide) (fun hG => Yd.lenR hu7 rfl Try.underlying84 (.g rfl hG)) ?_
      refine W.g rfl rfl rfl rfl rfl (.t rfl _) rfl (by decide) (fun hG => Yd.fldB rfl Try.underlying69 rfl SZ3 rfl (.t rfl)) ?_
      refine W.g rfl rfl rfl rfl rfl (.t rfl _) rfl (by decide) (fun hG => Yd.ldB (pos := 0) rfl rfl rfl ON3 (.g rfl hG)) ?_
      refine W.g rfl rfl rfl rfl rfl (.t rfl _) rfl (by decide) (fun hG => Yd.eql rfl (.g rfl hG) (.g rfl hG)) ?_
      refine W.q rfl rfl rfl rfl (by decide) (Yd.and rfl (.t rfl) .c rfl rfl) ?_
      refine W.q rfl rfl rfl rfl (by decide) (Yd.as rfl (.t rfl)) ?_
      refine W.end ?_
      refine NX.sub (env' := [(4, _)]) ⟨rfl, trivial⟩ ?_
      refine NX.drop (l' := l) (.cons _ (.refl _)) ?_
      refine NX.then ?_
      refine Tr.ret' ?_
      refine res1 rfl rfl ?_
      intro w hc
      cases hr
      exact ⟨rfl, (cX_le (x := ⟨m, _⟩) ⟨(hsm6.trans hsm13), [], rfl⟩ hc)⟩
    refine Tr.block ?_
    refine Tr.sub (env' := [(2, _), (5, _), (6, _), (8, _), (9, _)]) ⟨rfl, rfl, rfl, rfl, rfl, trivial⟩ ?_
    refine Tr.loop (S := fun n (z : Int) env x => match z with | s_16 => env = [(2, bp b1 0), (5, u5), (6, .int .i64 r3.2), (8, u12), (9, .int .i64 s_16)] ∧ x = ⟨m13, hcells b1 [.int .i64 m_0.n, .int .i64 m_0.users, .int .i64 m_0.acts, um_0_3, um_0_4] 69 :: l⟩ ∧ whileK (σ := Int) (fun s nx_ => syllogistlaw_ViewParts_b19 m_0 fuel r3 r10 s nx_) n s_16 = some r) _ (0 : Int) ⟨rfl, rfl, hr⟩ ?_
    rintro n21 s_16 env x ⟨rfl, rfl, hr⟩
    cases n21 with
    | zero => simp [whileK] at hr
    | succ n21 =>
      obtain ⟨nx20, hnx20, hr⟩ := whileK_succ hr
      try dsimp only at hr
      unfold syllogistlaw_ViewParts_b19 at hr
      try dsimp only at hr
      refine Tr.seq ?_
      refine Tr.seq ?_
      refine Tr.region_f (fun _ => false) ?_
      refine W.q rfl rfl rfl rfl (by decide) (Yd.mv rfl (.t rfl)) ?_
      refine W.q rfl rfl rfl rfl (by decide) (Yd.fldB rfl Try.underlying69 rfl SZ3 rfl (.t rfl)) ?_
      refine W.q rfl rfl rfl rfl (by decide) (Yd.ldB (pos := 0) rfl rfl rfl ON3 (.t rfl)) ?_
      refine W.q rfl rfl rfl rfl (by decide) (Yd.lss rfl (.t rfl) (.t rfl)) ?_
      refine W.q rfl rfl rfl rfl (by decide) (Yd.mv rfl (.t rfl)) ?_
      refine W.g rfl rfl rfl rfl rfl (.t rfl _) rfl (by decide) (fun hG => Yd.mv rfl (.t rfl)) ?_
      refine W.g rfl rfl rfl rfl rfl (.t rfl _) rfl (by decide) (fun hG => Yd.mv rfl (.t rfl)) ?_
      refine W.g rfl rfl rfl rfl rfl (.t rfl _) rfl (by decide) (fun hG => Yd.lenR hu7 rfl Try.underlying84 (.g rfl hG)) ?_
      refine W.g rfl rfl rfl rfl rfl (.t rfl _) rfl (by decide) (fun hG => Yd.lss rfl (.g rfl hG) (.g rfl hG)) ?_
      refine W.q rfl rfl rfl rfl (by decide) (Yd.and rfl (.t rfl) .c rfl rfl) ?_
      refine W.end ?_
      refine NX.sub (env' := [(2, _), (5, _), (6, _), (8, _), (9, _), (42, _)]) ⟨rfl, rfl, rfl, rfl, rfl, rfl, trivial⟩ ?_
      refine NX.then ?_
      refine Tr.cond (.t rfl) (fun hb => ?_) (fun hb => ?_)
      · have hr := cond_t hb hr
        refine Tr.skip' ?_
        refine NX.then ?_
        refine Tr.seq ?_
        refine Tr.block ?_
        refine Tr.seq ?_
        refine Tr.region_f (fun _ => false) ?_
        refine W.q rfl rfl rfl rfl (by decide) (Yd.as rfl .c) ?_
        refine W.end ?_
        refine NX.sub (env' := [(2, _), (5, _), (6, _), (8, _), (9, _), (10, _)]) ⟨rfl, rfl, rfl, rfl, rfl, rfl, trivial⟩ ?_
        refine NX.then ?_
        refine Tr.seq ?_
        refine Tr.join (S := fun env x => ∃ p_24 : Int, env = [(2, bp b1 0), (5, u5), (6, .int .i64 r3.2), (8, u12), (9, .int .i64 s_16), (10, .int .i64 p_24)] ∧ x = ⟨m13, hcells b1 [.int .i64 m_0.n, .int .i64 m_0.users, .int .i64 m_0.acts, um_0_3, um_0_4] 69 :: l⟩ ∧ syllogistlaw_ViewParts_k25 r3 s_16 nx20 p_24 = some r) ?_ (fun hk26 => ?_)
        · rintro _ _ ⟨p_24, rfl, rfl, hr⟩
          unfold syllogistlaw_ViewParts_k25 at hr
          try dsimp only at hr
          refine NX.then ?_
          refine Tr.seq ?_
          obtain ⟨y27, hy28, hr⟩ := bind_some hr
          refine Tr.region_f (fun _ => false) ?_
          refine W.q rfl rfl rfl rfl (by decide) (Yd.mv rfl (.t rfl)) ?_
          refine W.q rfl rfl rfl rfl (by decide) (Yd.mv rfl (.t rfl)) ?_
          refine W.q rfl rfl rfl rfl (by decide) (Yd.idxR hu7 hy28 rfl Try.underlying84 SZ3 (.t rfl) (.t rfl)) ?_
          refine W.q rfl rfl rfl rfl (by decide) (Yd.ldF hu7 (.refl _) hy28 rfl rfl ON3 (.t rfl)) ?_
          refine W.q rfl rfl rfl rfl (by decide) (Yd.mv rfl (.t rfl)) ?_
          refine W.q rfl rfl rfl rfl (by decide) (Yd.neq rfl (.t rfl) (.t rfl)) ?_
          refine W.end ?_
          refine NX.sub (env' := [(2, _), (5, _), (6, _), (8, _), (9, _), (60, _)]) ⟨rfl, rfl, rfl, rfl, rfl, rfl, trivial⟩ ?_
          refine NX.then ?_
          refine Tr.cond (.t rfl) (fun hb => ?_) (fun hb => ?_)
          · have hr := cond_t hb hr
            refine Tr.seq ?_
            refine Tr.region_f (fun _ => false) ?_
            refine W.q rfl rfl rfl rfl (by decide) (Yd.as rfl .c) ?_
            refine W.end ?_
            refine NX.sub (env' := [(4, _)]) ⟨rfl, trivial⟩ ?_
            refine NX.drop (l' := l) (.cons _ (.refl _)) ?_
            refine NX.then ?_
            refine Tr.ret' (RT.block (RT.then (RT.then (RT.block (RT.then ?_)))))
            refine res1 rfl rfl ?_
            intro w hc
            cases hr
            exact ⟨rfl, (cX_le (x := ⟨m, _⟩) ⟨(hsm6.trans hsm13), [], rfl⟩ hc)⟩
          · have hr := cond_f hb hr
            refine Tr.skip' ?_
            refine NX.block ?_
            refine NX.then ?_
            refine Tr.region_f (fun _ => false) ?_
            refine W.q rfl rfl rfl rfl (by decide) (Yd.mv rfl (.t rfl)) ?_
            refine W.q rfl rfl rfl rfl (by decide) (Yd.add rfl (.t rfl) .c) ?_
            refine W.q rfl rfl rfl rfl (by decide) (Yd.as rfl (.t rfl)) ?_
            refine W.end ?_
            refine NX.sub (env' := [(2, _), (5, _), (6, _), (8, _), (9, _)]) ⟨rfl, rfl, rfl, rfl, rfl, trivial⟩ ?_
            refine NX.sub (env' := [(2, _), (5, _), (6, _), (8, _), (9, _)]) ⟨rfl, rfl, rfl, rfl, rfl, trivial⟩ ?_
            exact NX.again n21 (w64 (s_16 + (1 : Int))) (Nat.lt_succ_self _) ⟨rfl, rfl, ((hnx20 _).symm.trans hr)⟩
        refine Tr.block ?_
        refine Tr.sub (env' := [(2, _), (5, _), (6, _), (8, _), (9, _), (10, _)]) ⟨rfl, rfl, rfl, rfl, rfl, rfl, trivial⟩ ?_
        refine Tr.loop (S := fun n (z : Int) env x => match z with | p_23 => env = [(2, bp b1 0), (5, u5), (6, .int .i64 r3.2), (8, u12), (9, .int .i64 s_16), (10, .int .i64 p_23)] ∧ x = ⟨m13, hcells b1 [.int .i64 m_0.n, .int .i64 m_0.users, .int .i64 m_0.acts, um_0_3, um_0_4] 69 :: l⟩ ∧ whileK (σ := Int) (fun s nx_ => syllogistlaw_ViewParts_b29 r3 r10 s_16 nx20 s nx_) n p_23 = some r) _ (0 : Int) ⟨rfl, rfl, hr⟩ ?_
        rintro n31 p_23 env x ⟨rfl, rfl, hr⟩
        cases n31 with
        | zero => simp [whileK] at hr
        | succ n31 =>
          obtain ⟨nx30, hnx30, hr⟩ := whileK_succ hr
          try dsimp only at hr
          unfold syllogistlaw_ViewParts_b29 at hr
          try dsimp only at hr
          refine Tr.seq ?_
          refine Tr.seq ?_
          obtain ⟨y32, hy33, hr⟩ := bind_some hr
          obtain ⟨y37, hy38, hr⟩ := bind_some hr
          refine Tr.region_f (fun _ => false) ?_
          refine W.q rfl rfl rfl rfl (by decide) (Yd.mv rfl (.t rfl)) ?_
          refine W.q rfl rfl rfl rfl (by decide) (Yd.mv rfl (.t rfl)) ?_
          refine W.q rfl rfl rfl rfl (by decide) (Yd.idxR hu14 hy33 rfl Try.underlying87 SZ89 (.t rfl) (.t rfl)) ?_
          obtain ⟨u34, hu35, hat36⟩ := hu14.row hy33
          refine W.q rfl rfl rfl rfl (by decide) (Yd.ldRow hat36 (.refl _) rfl ON89 (.t rfl)) ?_
          refine W.q rfl rfl rfl rfl (by decide) (Yd.mv rfl (.t rfl)) ?_
          refine W.q rfl rfl rfl rfl (by decide) (Yd.idxR hu35 hy38 rfl Try.underlying89 SZ4 (.t rfl) (.t rfl)) ?_
          refine W.q rfl rfl rfl rfl (by decide) (Yd.ldF hu35 (.refl _) hy38 rfl rfl ON4 (.t rfl)) ?_
          refine W.q rfl rfl rfl rfl (by decide) (Yd.not rfl (.t rfl)) ?_
          refine W.end ?_
          refine NX.sub (env' := [(2, _), (5, _), (6, _), (8, _), (9, _), (10, _), (52, _)]) ⟨rfl, rfl, rfl, rfl, rfl, rfl, rfl, trivial⟩ ?_
          refine NX.then ?_
          refine Tr.cond (.t rfl) (fun hb => ?_) (fun hb => ?_)
          · have hr := cond_t hb hr
            refine Tr.skip' ?_
            refine NX.then ?_
            refine Tr.block ?_
            refine Tr.region_f (fun _ => false) ?_
            refine W.q rfl rfl rfl rfl (by decide) (Yd.mv rfl (.t rfl)) ?_
            refine W.q rfl rfl rfl rfl (by decide) (Yd.add rfl (.t rfl) .c) ?_
            refine W.q rfl rfl rfl rfl (by decide) (Yd.as rfl (.t rfl)) ?_
            refine W.end ?_
            refine NX.sub (env' := [(2, _), (5, _), (6, _), (8, _), (9, _), (10, _)]) ⟨rfl, rfl, rfl, rfl, rfl, rfl, trivial⟩ ?_
            refine NX.block ?_
            refine NX.sub (env' := [(2, _), (5, _), (6, _), (8, _), (9, _), (10, _)]) ⟨rfl, rfl, rfl, rfl, rfl, rfl, trivial⟩ ?_
            exact NX.again n31 (w64 (p_23 + (1 : Int))) (Nat.lt_succ_self _) ⟨rfl, rfl, ((hnx30 _).symm.trans hr)⟩
          · have hr := cond_f hb hr
            refine Tr.exit' (EX.then (EX.then (EX.block ?_)))
            refine NX.sub (env' := [(2, _), (5, _), (6, _), (8, _), (9, _), (10, _)]) ⟨rfl, rfl, rfl, rfl, rfl, rfl, trivial⟩ ?_
            exact hk26 _ _ ⟨_, rfl, rfl, hr⟩
      · have hr := cond_f hb hr
        refine Tr.exit' (EX.then (EX.then (EX.block ?_)))
        refine NX.sub (env' := [(2, _), (5, _), (6, _)]) ⟨rfl, rfl, rfl, trivial⟩ ?_
        exact hk18 _ _ ⟨rfl, rfl, hr⟩
end Go.Proofs.Ytehfjfaanhdbaaa.Sy
