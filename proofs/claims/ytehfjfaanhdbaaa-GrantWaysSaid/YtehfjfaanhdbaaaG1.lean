/- Functions of the program as plain functions, and that the translation computes them; the conditions stand in each theorem. Printed by an own program. -/
import Derived.Test.YtehfjfaanhdbaaaG1a
import Derived.Test.YtehfjfaanhdbaaaProg
namespace Go.Proofs.Ytehfjfaanhdbaaa.Sy
open Go
set_option linter.unusedVariables false
def grant_Way_k25 (c22 : Int) (l23 : List Deed) : Option ((List Deed) × Int) :=
  some ((l23, (0 : Int)))

def grant_Way_b27 (y_3 : Int) (right_4 : (BitVec 32)) (r1 : (List (List (BitVec 32))) × Int) (r6 : (List Int)) (k_18 : Int) (c19 : Int) (l20 : List Deed) (nx28 : (Int × Int × (List Deed)) → Option ((List Deed) × Int)) : Option ((List Deed) × Int) :=
  (bif (decide ((w64 (k_18 + (1 : Int))) < (r6.length : Int))) then
  (geti r6 k_18).bind fun y30 =>
  (geti r6 ((w64 (k_18 + (1 : Int))))).bind fun y32 =>
  (bif (y32 != y_3) then
  (grant_maker_hop (({ graph := r1.1, n := c19, l := l20 } : T108)) y30 y32 y_3 right_4).bind fun r34 =>
  nx28 ((w64 (k_18 + (1 : Int))), r34.n, r34.l)
  else
  (geti r6 ((w64 (k_18 + (2 : Int))))).bind fun y37 =>
  (grant_maker_fresh (({ graph := r1.1, n := c19, l := l20 } : T108)) y30).bind fun r39 =>
  (grant_maker_hop (({ graph := r1.1, n := r39.2.n, l := r39.2.l } : T108)) y30 y_3 r39.1 (1#32)).bind fun r42 =>
  (grant_maker_hop (({ graph := r1.1, n := r42.n, l := r42.l } : T108)) y_3 y37 r39.1 (1#32)).bind fun r45 =>
  (grant_maker_put (({ graph := r1.1, n := r45.n, l := r45.l } : T108)) ((2 : Int)) y30 r39.1 y_3 right_4).bind fun r48 =>
  (grant_maker_put (({ graph := r1.1, n := r48.n, l := r48.l } : T108)) ((1 : Int)) y37 r39.1 y_3 right_4).bind fun r51 =>
  nx28 ((w64 ((w64 (k_18 + (1 : Int))) + (1 : Int))), r51.n, r51.l))
  else
  grant_Way_k25 c19 l20)

def grant_Way (fuel : Nat) (n_0 : Int) (edges_1 : List Edge) (x_2 : Int) (y_3 : Int) (right_4 : (BitVec 32)) : Option ((List Deed) × Int) :=
  (grant_wrong n_0 edges_1 x_2 y_3 right_4).bind fun r1 =>
  (bif (r1.2 != (0 : Int)) then
  some (([], r1.2))
  else
  (grant_graph_path fuel r1.1 x_2 y_3 right_4).bind fun r6 =>
  (bif r6.isEmpty then
  some (([], (5 : Int)))
  else
  whileK (σ := Int × Int × (List Deed)) (fun s nx_ => grant_Way_b27 y_3 right_4 r1 r6 s.1 s.2.1 s.2.2 nx_) fuel (((0 : Int)), n_0, (([] : List Deed)))))

set_option maxRecDepth 100000 in
set_option maxHeartbeats 4000000 in
theorem grant_Way_ok (w0 : World) (m : Snap) (l : List HI) (fuel : Nat) (n_0 : Int) (uedges_1 : Value) (edges_1 : List Edge) (hedges_1 : RS rEdge m uedges_1 edges_1) (x_2 : Int) (y_3 : Int) (right_4 : (BitVec 32)) (r : (List Deed) × Int) (hr : grant_Way fuel n_0 edges_1 x_2 y_3 right_4 = some r) (w : World) (hc : cX w0 ⟨m, l⟩ w) :
    Calls Try.prog 30 [.int .i64 n_0, uedges_1, .int .i64 x_2, .int .i64 y_3, .int .u32 (right_4.toNat : Int)].toArray w fun e w' => ∃ z0 : Value, e = .returned (.tuple #[z0, .int .i64 r.2]) ∧ cX w0 ⟨m, hownT 64 6 Deed.enc z0 r.1 :: l⟩ w' := by
  unfold grant_Way at hr
  refine calls_of_Tr (N := 105) Try.func30 rfl hc rfl (Nat.le_of_ble_eq_true rfl) ?_
  refine Tr.seq ?_
  refine Tr.region_f (fun _ => false) ?_
  refine W.q rfl rfl rfl rfl (by decide) (Yd.as rfl .c) ?_
  refine W.q rfl rfl rfl rfl (by decide) (Yd.as rfl .c) ?_
  refine W.end ?_
  refine NX.sub (env' := [(0, _), (1, _), (2, _), (3, _), (4, _)]) ⟨rfl, rfl, rfl, rfl, rfl, trivial⟩ ?_
  refine NX.then ?_
  refine Tr.seq ?_
  obtain ⟨r1, hr2, hr⟩ := bind_some hr
  refine Tr.region_f (fun i => Nat.beq i 5) ?_
  refine W.q rfl rfl rfl rfl (by decide) (Yd.mv rfl (.t rfl)) ?_
  refine W.q rfl rfl rfl rfl (by decide) (Yd.mv rfl (.t rfl)) ?_
  refine W.q rfl rfl rfl rfl (by decide) (Yd.mv rfl (.t rfl)) ?_
  refine W.q rfl rfl rfl rfl (by decide) (Yd.mv rfl (.t rfl)) ?_
  refine W.q rfl rfl rfl rfl (by decide) (Yd.mv rfl (.t rfl)) ?_
  refine W.e rfl rfl rfl rfl (by decide) (Ef.call (R := fun z x' => ∃ u3 : Value, ∃ m4 : Snap, z = .tuple #[u3, .int .i64 r1.2] ∧ x' = ⟨m4, l⟩ ∧ Sle m m4 ∧ RS (Rp.slice rU) m4 u3 r1.1) rfl Try.func49 rfl rfl (.cons (.t rfl) (.cons (.t rfl) (.cons (.t rfl) (.cons (.t rfl) (.cons (.t rfl) .nil))))) (fun w hw => (grant_wrong_ok w0 _ _ n_0 _ _ hedges_1 x_2 y_3 right_4 _ hr2 w hw).mono fun e w' ⟨u3, m4, he, hm', hu5, hc'⟩ => ⟨_, _, he, ⟨u3, m4, rfl, rfl, hm', hu5⟩, hc'⟩)) ?_
  rintro _ _ ⟨u3, m4, rfl, rfl, hsm4, hu5⟩
  have hedges_1 := hedges_1.mono hsm4
  refine ⟨.inl rfl, ?_⟩
  refine W.cast (m' := m4) (l' := l) rfl rfl ?_
  refine W.q rfl rfl rfl rfl (by decide) (Yd.mv rfl (.t rfl)) ?_
  refine W.q rfl rfl rfl rfl (by decide) (Yd.ext rfl (.t rfl) rfl) ?_
  refine W.q rfl rfl rfl rfl (by decide) (Yd.ext rfl (.t rfl) rfl) ?_
  refine W.q rfl rfl rfl rfl (by decide) (Yd.as rfl (.t rfl)) ?_
  refine W.q rfl rfl rfl rfl (by decide) (Yd.as rfl (.t rfl)) ?_
  refine W.end ?_
  refine NX.sub (env' := [(0, _), (2, _), (3, _), (4, _), (12, _), (13, _)]) ⟨rfl, rfl, rfl, rfl, rfl, rfl, trivial⟩ ?_
  refine NX.then ?_
  refine Tr.seq ?_
  refine Tr.seq ?_
  refine Tr.region_f (fun _ => false) ?_
  refine W.q rfl rfl rfl rfl (by decide) (Yd.mv rfl (.t rfl)) ?_
  refine W.q rfl rfl rfl rfl (by decide) (Yd.neq rfl (.t rfl) .c) ?_
  refine W.end ?_
  refine NX.sub (env' := [(0, _), (2, _), (3, _), (4, _), (12, _), (13, _), (31, _)]) ⟨rfl, rfl, rfl, rfl, rfl, rfl, rfl, trivial⟩ ?_
  refine NX.then ?_
  refine Tr.cond (.t rfl) (fun hb => ?_) (fun hb => ?_)
  · have hr := cond_t hb hr
    refine Tr.seq ?_
    refine Tr.region_f (fun _ => false) ?_
    refine W.q rfl rfl rfl rfl (by decide) (Yd.mv rfl (.t rfl)) ?_
    refine W.q rfl rfl rfl rfl (by decide) (Yd.as rfl .c) ?_
    refine W.q rfl rfl rfl rfl (by decide) (Yd.as rfl (.t rfl)) ?_
    refine W.end ?_
    refine NX.sub (env' := [(10, _), (11, _)]) ⟨rfl, rfl, trivial⟩ ?_
    refine NX.then ?_
    refine Tr.ret' (RT.then ?_)
    refine res2 rfl rfl rfl ?_
    intro w hc
    cases hr
    exact ⟨_, rfl, (cX_le (x := ⟨m, _⟩) ⟨hsm4, [], rfl⟩ (cX_nil hc))⟩
  · have hr := cond_f hb hr
    refine Tr.skip' ?_
    refine NX.then ?_
    refine Tr.seq ?_
    obtain ⟨r6, hr7, hr⟩ := bind_some hr
    refine Tr.region_f (fun i => Nat.beq i 4) ?_
    refine W.q rfl rfl rfl rfl (by decide) (Yd.mv rfl (.t rfl)) ?_
    refine W.q rfl rfl rfl rfl (by decide) (Yd.mv rfl (.t rfl)) ?_
    refine W.q rfl rfl rfl rfl (by decide) (Yd.mv rfl (.t rfl)) ?_
    refine W.q rfl rfl rfl rfl (by decide) (Yd.mv rfl (.t rfl)) ?_
    refine W.e rfl rfl rfl rfl (by decide) (Ef.call (R := fun z x' => ∃ v8 : Value, z = v8 ∧ x' = ⟨m4, hownT 3 1 encI v8 r6 :: l⟩ ∧ (r6 = [] → v8 = .slice none 0 0)) rfl Try.func50 rfl rfl (.cons (.t rfl) (.cons (.t rfl) (.cons (.t rfl) (.cons (.t rfl) .nil)))) (fun w hw => (grant_graph_path_ok w0 _ _ fuel _ _ hu5 x_2 y_3 right_4 _ hr7 w hw).mono fun e w' ⟨v8, he, hnn, hc'⟩ => ⟨_, _, he, ⟨v8, rfl, rfl, hnn⟩, hc'⟩)) ?_
    rintro v8 _ ⟨_, rfl, rfl, hn10⟩
    refine ⟨.inl rfl, ?_⟩
    refine W.cast (m' := m4) (l' := hownT 3 1 encI v8 _ :: l) rfl rfl ?_
    refine W.q rfl rfl rfl rfl (by decide) (Yd.as rfl (.t rfl)) ?_
    refine W.end ?_
    refine NX.sub (env' := [(0, _), (3, _), (4, _), (12, _), (14, _)]) ⟨rfl, rfl, rfl, rfl, rfl, trivial⟩ ?_
    refine NX.then ?_
    refine Tr.seq ?_
    refine Tr.seq ?_
    refine Tr.region_f (fun _ => false) ?_
    refine W.q rfl rfl rfl rfl (by decide) (Yd.mv rfl (.t rfl)) ?_
    refine W.q rfl rfl rfl rfl (by decide) (Yd.eqnilO (enc := encI) (n := 1) (pos := 0) (xs := r6) rfl hn10 rfl Try.underlying84 (.t rfl) .c) ?_
    refine W.end ?_
    refine NX.sub (env' := [(0, _), (3, _), (4, _), (12, _), (14, _), (39, _)]) ⟨rfl, rfl, rfl, rfl, rfl, rfl, trivial⟩ ?_
    refine NX.then ?_
    refine Tr.cond (.t rfl) (fun hb => ?_) (fun hb => ?_)
    · have hr := cond_t hb hr
      refine Tr.seq ?_
      refine Tr.region_f (fun _ => false) ?_
      refine W.q rfl rfl rfl rfl (by decide) (Yd.as rfl .c) ?_
      refine W.q rfl rfl rfl rfl (by decide) (Yd.as rfl .c) ?_
      refine W.end ?_
      refine NX.sub (env' := [(10, _), (11, _)]) ⟨rfl, rfl, trivial⟩ ?_
      refine NX.drop (l' := l) (.cons _ (.refl _)) ?_
      refine NX.then ?_
      refine Tr.ret' (RT.then ?_)
      refine res2 rfl rfl rfl ?_
      intro w hc
      cases hr
      exact ⟨_, rfl, (cX_le (x := ⟨m, _⟩) ⟨hsm4, [], rfl⟩ (cX_nil hc))⟩
    · have hr := cond_f hb hr
      refine Tr.skip' ?_
      refine NX.then ?_
      refine Tr.seq ?_
      refine Tr.addnil 64 6 ?_
      refine Tr.cast (m' := m4) (l' := hownT 64 6 Deed.enc (.slice none 0 0) (([] : List Deed)) :: hownT 3 1 encI v8 r6 :: l) rfl rfl ?_
      refine Tr.region_f (fun i => Nat.beq i 3) ?_
      refine W.q rfl rfl rfl rfl (by decide) (Yd.mv rfl (.t rfl)) ?_
      refine W.q rfl rfl rfl rfl (by decide) (Yd.mv rfl (.t rfl)) ?_
      refine W.q rfl rfl rfl rfl (by decide) (Yd.bld1 (cells := [u3, .int .i64 n_0, (.slice none 0 0)]) (Sl.ro hu5) rfl ZI108 PL108 (.cons (.t rfl) (.cons (.t rfl) .nil)) (by rintro ⟨_, _, _, rfl⟩; rfl)) ?_
      refine W.e rfl rfl rfl rfl (by decide) (Ef.bx rfl (.t rfl) rfl) ?_
      rintro _ _ ⟨b12, rfl, rfl⟩
      refine ⟨.inl rfl, ?_⟩
      refine W.cast (m' := m4) (l' := hcells b12 [_, _, _] 108 :: hownT 64 6 Deed.enc (.slice none 0 0) (([] : List Deed)) :: hownT 3 1 encI v8 _ :: l) rfl rfl ?_
      refine W.q rfl rfl rfl rfl (by decide) (Yd.as rfl (.t rfl)) ?_
      refine W.end ?_
      refine NX.sub (env' := [(3, _), (4, _), (14, _), (15, _)]) ⟨rfl, rfl, rfl, rfl, trivial⟩ ?_
      refine NX.then ?_
      refine Tr.seq ?_
      refine Tr.seq ?_
      refine Tr.region_f (fun _ => false) ?_
      refine W.q rfl rfl rfl rfl (by decide) (Yd.as rfl .c) ?_
      refine W.end ?_
      refine NX.sub (env' := [(3, _), (4, _), (14, _), (15, _), (16, _)]) ⟨rfl, rfl, rfl, rfl, rfl, trivial⟩ ?_
      refine NX.then ?_
      refine Tr.join (S := fun env x => ∃ c22 : Int, ∃ l23 : List Deed, ∃ v24 : Value, env = [(15, bp b12 0)] ∧ x = ⟨m4, hcells b12 [u3, .int .i64 c22, v24] 108 :: hownT 64 6 Deed.enc v24 l23 :: l⟩ ∧ grant_Way_k25 c22 l23 = some r) ?_ (fun hk26 => ?_)
      · rintro _ _ ⟨c22, l23, v24, rfl, rfl, hr⟩
        unfold grant_Way_k25 at hr
        try dsimp only at hr
        refine NX.then ?_
        refine Tr.seq ?_
        refine Tr.region_f (fun _ => false) ?_
        refine W.q rfl rfl rfl rfl (by decide) (Yd.mv rfl (.t rfl)) ?_
        refine W.q rfl rfl rfl rfl (by decide) (Yd.nilc rfl (.t rfl)) ?_
        refine W.q rfl rfl rfl rfl (by decide) (Yd.fldB rfl Try.underlying108 rfl SZ44 rfl (.t rfl)) ?_
        refine W.q rfl rfl rfl rfl (by decide) (Yd.ldB (pos := 0) rfl rfl rfl ON44 (.t rfl)) ?_
        refine W.q rfl rfl rfl rfl (by decide) (Yd.as rfl (.t rfl)) ?_
        refine W.q rfl rfl rfl rfl (by decide) (Yd.as rfl .c) ?_
        refine W.end ?_
        refine NX.sub (env' := [(10, _), (11, _)]) ⟨rfl, rfl, trivial⟩ ?_
        refine NX.drop (l' := hownT 64 6 Deed.enc v24 _ :: l) (.cons _ (.cons_cons _ (.refl _))) ?_
        refine NX.then ?_
        refine Tr.ret' ?_
        refine res2 rfl rfl rfl ?_
        intro w hc
        cases hr
        exact ⟨_, rfl, (cX_le (x := ⟨m, _⟩) ⟨hsm4, [], rfl⟩ hc)⟩
      refine Tr.block ?_
      refine Tr.sub (env' := [(3, _), (4, _), (14, _), (15, _), (16, _)]) ⟨rfl, rfl, rfl, rfl, rfl, trivial⟩ ?_
      refine Tr.loop (S := fun n (z : Int × Int × (List Deed)) env x => match z with | (k_18, c19, l20) => ∃ v21 : Value, env = [(3, .int .i64 y_3), (4, .int .u32 (right_4.toNat : Int)), (14, v8), (15, bp b12 0), (16, .int .i64 k_18)] ∧ x = ⟨m4, hcells b12 [u3, .int .i64 c19, v21] 108 :: hownT 64 6 Deed.enc v21 l20 :: hownT 3 1 encI v8 r6 :: l⟩ ∧ whileK (σ := Int × Int × (List Deed)) (fun s nx_ => grant_Way_b27 y_3 right_4 r1 r6 s.1 s.2.1 s.2.2 nx_) n (k_18, c19, l20) = some r) _ ((0 : Int), n_0, ([] : List Deed)) ⟨_, rfl, rfl, hr⟩ ?_
      rintro n29 ⟨k_18, c19, l20⟩ env x ⟨v21, rfl, rfl, hr⟩
      cases n29 with
      | zero => simp [whileK] at hr
      | succ n29 =>
        obtain ⟨nx28, hnx28, hr⟩ := whileK_succ hr
        try dsimp only at hr
        unfold grant_Way_b27 at hr
        try dsimp only at hr
        refine Tr.seq ?_
        refine Tr.seq ?_
        refine Tr.region_f (fun _ => false) ?_
        refine W.q rfl rfl rfl rfl (by decide) (Yd.mv rfl (.t rfl)) ?_
        refine W.q rfl rfl rfl rfl (by decide) (Yd.add rfl (.t rfl) .c) ?_
        refine W.q rfl rfl rfl rfl (by decide) (Yd.mv rfl (.t rfl)) ?_
        refine W.q rfl rfl rfl rfl (by decide) (Yd.lenO (p := 2) rfl rfl Try.underlying84 (.t rfl)) ?_
        refine W.q rfl rfl rfl rfl (by decide) (Yd.lss rfl (.t rfl) (.t rfl)) ?_
        refine W.end ?_
        refine NX.sub (env' := [(3, _), (4, _), (14, _), (15, _), (16, _), (48, _)]) ⟨rfl, rfl, rfl, rfl, rfl, rfl, trivial⟩ ?_
        refine NX.then ?_
        refine Tr.cond (.t rfl) (fun hb => ?_) (fun hb => ?_)
        · have hr := cond_t hb hr
          refine Tr.skip' ?_
          refine NX.then ?_
          refine Tr.seq ?_
          refine Tr.block ?_
          refine Tr.seq ?_
          obtain ⟨y30, hy31, hr⟩ := bind_some hr
          obtain ⟨y32, hy33, hr⟩ := bind_some hr
          refine Tr.region_x (fun _ => false) (fun _ => false) (Ord.of [0, 1, 2, 3, 4, 5, 6, 7, 8, 9, 10]) FM (by kernel_rfl) ?_
          refine W.q rfl rfl rfl rfl (by decide) (Yd.mv rfl (.t rfl)) ?_
          refine W.q rfl rfl rfl rfl (by decide) (Yd.mv rfl (.t rfl)) ?_
          refine W.q rfl rfl rfl rfl (by decide) (Yd.idxT (pos := 2) rfl hy31 rfl Try.underlying84 SZ3 (.t rfl) (.t rfl)) ?_
          refine W.q rfl rfl rfl rfl (by decide) (Yd.ldT (enc := encI) (n := 1) (pos := 2) (fun _ => rfl) rfl hy31 rfl rfl ON3 (.t rfl)) ?_
          refine W.q rfl rfl rfl rfl (by decide) (Yd.mv rfl (.t rfl)) ?_
          refine W.q rfl rfl rfl rfl (by decide) (Yd.mv rfl (.t rfl)) ?_
          refine W.q rfl rfl rfl rfl (by decide) (Yd.add rfl (.t rfl) .c) ?_
          refine W.q rfl rfl rfl rfl (by decide) (Yd.idxT (pos := 2) rfl hy33 rfl Try.underlying84 SZ3 (.t rfl) (.t rfl)) ?_
          refine W.q rfl rfl rfl rfl (by decide) (Yd.ldT (enc := encI) (n := 1) (pos := 2) (fun _ => rfl) rfl hy33 rfl rfl ON3 (.t rfl)) ?_
          refine W.q rfl rfl rfl rfl (by decide) (Yd.as rfl (.t rfl)) ?_
          refine W.q rfl rfl rfl rfl (by decide) (Yd.as rfl (.t rfl)) ?_
          refine W.end ?_
          refine NX.sub (env' := [(3, _), (4, _), (14, _), (15, _), (16, _), (17, _), (18, _)]) ⟨rfl, rfl, rfl, rfl, rfl, rfl, rfl, trivial⟩ ?_
          refine NX.then ?_
          refine Tr.seq ?_
          refine Tr.seq ?_
          refine Tr.region_f (fun _ => false) ?_
          refine W.q rfl rfl rfl rfl (by decide) (Yd.mv rfl (.t rfl)) ?_
          refine W.q rfl rfl rfl rfl (by decide) (Yd.mv rfl (.t rfl)) ?_
          refine W.q rfl rfl rfl rfl (by decide) (Yd.neq rfl (.t rfl) (.t rfl)) ?_
          refine W.end ?_
          refine NX.sub (env' := [(3, _), (4, _), (14, _), (15, _), (16, _), (17, _), (18, _), (62, _)]) ⟨rfl, rfl, rfl, rfl, rfl, rfl, rfl, rfl, trivial⟩ ?_
          refine NX.then ?_
          refine Tr.cond (.t rfl) (fun hb => ?_) (fun hb => ?_)
          · have hr := cond_t hb hr
            refine Tr.seq ?_
            obtain ⟨r34, hr35, hr⟩ := bind_some hr
            refine Tr.region_f (fun i => Nat.beq i 5) ?_
            refine W.q rfl rfl rfl rfl (by decide) (Yd.mv rfl (.t rfl)) ?_
            refine W.q rfl rfl rfl rfl (by decide) (Yd.mv rfl (.t rfl)) ?_
            refine W.q rfl rfl rfl rfl (by decide) (Yd.mv rfl (.t rfl)) ?_
            refine W.q rfl rfl rfl rfl (by decide) (Yd.mv rfl (.t rfl)) ?_
            refine W.q rfl rfl rfl rfl (by decide) (Yd.mv rfl (.t rfl)) ?_
            refine W.e rfl rfl rfl rfl (by decide) (Ef.call (R := fun z x' => ∃ v36 : Value, z = .tuple #[] ∧ x' = ⟨m4, hcells b12 [u3, .int .i64 r34.n, v36] 108 :: hownT 64 6 Deed.enc v36 r34.l :: hownT 3 1 encI v8 r6 :: l⟩) rfl Try.func53 rfl rfl (.cons (.t rfl) (.cons (.t rfl) (.cons (.t rfl) (.cons (.t rfl) (.cons (.t rfl) .nil))))) (by intro w hw; replace hw := cX_front (p := 1) hw rfl; replace hw := cX_front (p := 1) hw rfl; exact (grant_maker_hop_ok w0 _ _ _ (({ graph := r1.1, n := c19, l := l20 } : T108)) _ hu5 _ y30 y32 y_3 right_4 _ hr35 w hw).mono fun e w' ⟨v36, he, hc'⟩ => ⟨_, _, he, ⟨v36, rfl, rfl⟩, hc'⟩)) ?_
            rintro _ _ ⟨v36, rfl, rfl⟩
            refine ⟨.inl rfl, ?_⟩
            refine W.cast (m' := m4) (l' := hcells b12 [_, _, _] 108 :: hownT 64 6 Deed.enc v36 _ :: hownT 3 1 encI v8 _ :: l) rfl rfl ?_
            refine W.end ?_
            refine NX.sub (env' := [(3, _), (4, _), (14, _), (15, _), (16, _)]) ⟨rfl, rfl, rfl, rfl, rfl, trivial⟩ ?_
            refine NX.then ?_
            refine Tr.exit' (EX.then (EX.block ?_))
            refine NX.then ?_
            refine Tr.region_f (fun _ => false) ?_
            refine W.q rfl rfl rfl rfl (by decide) (Yd.mv rfl (.t rfl)) ?_
            refine W.q rfl rfl rfl rfl (by decide) (Yd.add rfl (.t rfl) .c) ?_
            refine W.q rfl rfl rfl rfl (by decide) (Yd.as rfl (.t rfl)) ?_
            refine W.end ?_
            refine NX.sub (env' := [(3, _), (4, _), (14, _), (15, _), (16, _)]) ⟨rfl, rfl, rfl, rfl, rfl, trivial⟩ ?_
            refine NX.sub (env' := [(3, _), (4, _), (14, _), (15, _), (16, _)]) ⟨rfl, rfl, rfl, rfl, rfl, trivial⟩ ?_
            exact NX.again n29 ((w64 (k_18 + (1 : Int))), r34.n, r34.l) (Nat.lt_succ_self _) ⟨_, rfl, rfl, ((hnx28 _).symm.trans hr)⟩
          · have hr := cond_f hb hr
            refine Tr.skip' ?_
            refine NX.then ?_
            refine Tr.seq ?_
            obtain ⟨y37, hy38, hr⟩ := bind_some hr
            refine Tr.region_f (fun _ => false) ?_
            refine W.q rfl rfl rfl rfl (by decide) (Yd.mv rfl (.t rfl)) ?_
            refine W.q rfl rfl rfl rfl (by decide) (Yd.mv rfl (.t rfl)) ?_
            refine W.q rfl rfl rfl rfl (by decide) (Yd.add rfl (.t rfl) .c) ?_
            refine W.q rfl rfl rfl rfl (by decide) (Yd.idxT (pos := 2) rfl hy38 rfl Try.underlying84 SZ3 (.t rfl) (.t rfl)) ?_
            refine W.q rfl rfl rfl rfl (by decide) (Yd.ldT (enc := encI) (n := 1) (pos := 2) (fun _ => rfl) rfl hy38 rfl rfl ON3 (.t rfl)) ?_
            refine W.q rfl rfl rfl rfl (by decide) (Yd.as rfl (.t rfl)) ?_
            refine W.end ?_
            refine NX.sub (env' := [(3, _), (4, _), (14, _), (15, _), (16, _), (17, _), (19, _)]) ⟨rfl, rfl, rfl, rfl, rfl, rfl, rfl, trivial⟩ ?_
            refine NX.then ?_
            refine Tr.seq ?_
            obtain ⟨r39, hr40, hr⟩ := bind_some hr
            refine Tr.region_f (fun i => Nat.beq i 2) ?_
            refine W.q rfl rfl rfl rfl (by decide) (Yd.mv rfl (.t rfl)) ?_
            refine W.q rfl rfl rfl rfl (by decide) (Yd.mv rfl (.t rfl)) ?_
            refine W.e rfl rfl rfl rfl (by decide) (Ef.call (R := fun z x' => ∃ v41 : Value, z = .int .i64 r39.1 ∧ x' = ⟨m4, hcells b12 [u3, .int .i64 r39.2.n, v41] 108 :: hownT 64 6 Deed.enc v41 r39.2.l :: hownT 3 1 encI v8 r6 :: l⟩) rfl Try.func54 rfl rfl (.cons (.t rfl) (.cons (.t rfl) .nil)) (by intro w hw; replace hw := cX_front (p := 1) hw rfl; replace hw := cX_front (p := 1) hw rfl; exact (grant_maker_fresh_ok w0 _ _ _ (({ graph := r1.1, n := c19, l := l20 } : T108)) _ hu5 _ y30 _ hr40 w hw).mono fun e w' ⟨v41, he, hc'⟩ => ⟨_, _, he, ⟨v41, rfl, rfl⟩, hc'⟩)) ?_
            rintro _ _ ⟨v41, rfl, rfl⟩
            refine ⟨.inl rfl, ?_⟩
            refine W.cast (m' := m4) (l' := hcells b12 [_, _, _] 108 :: hownT 64 6 Deed.enc v41 _ :: hownT 3 1 encI v8 _ :: l) rfl rfl ?_
            refine W.q rfl rfl rfl rfl (by decide) (Yd.as rfl (.t rfl)) ?_
            refine W.end ?_
            refine NX.sub (env' := [(3, _), (4, _), (14, _), (15, _), (16, _), (17, _), (19, _), (20, _)]) ⟨rfl, rfl, rfl, rfl, rfl, rfl, rfl, rfl, trivial⟩ ?_
            refine NX.then ?_
            refine Tr.seq ?_
            obtain ⟨r42, hr43, hr⟩ := bind_some hr
            refine Tr.region_f (fun i => Nat.beq i 4) ?_
            refine W.q rfl rfl rfl rfl (by decide) (Yd.mv rfl (.t rfl)) ?_
            refine W.q rfl rfl rfl rfl (by decide) (Yd.mv rfl (.t rfl)) ?_
            refine W.q rfl rfl rfl rfl (by decide) (Yd.mv rfl (.t rfl)) ?_
            refine W.q rfl rfl rfl rfl (by decide) (Yd.mv rfl (.t rfl)) ?_
            refine W.e rfl rfl rfl rfl (by decide) (Ef.call (R := fun z x' => ∃ v44 : Value, z = .tuple #[] ∧ x' = ⟨m4, hcells b12 [u3, .int .i64 r42.n, v44] 108 :: hownT 64 6 Deed.enc v44 r42.l :: hownT 3 1 encI v8 r6 :: l⟩) rfl Try.func53 rfl rfl (.cons (.t rfl) (.cons (.t rfl) (.cons (.t rfl) (.cons (.t rfl) (.cons .c .nil))))) (by intro w hw; replace hw := cX_front (p := 1) hw rfl; replace hw := cX_front (p := 1) hw rfl; exact (grant_maker_hop_ok w0 _ _ _ (({ graph := r1.1, n := r39.2.n, l := r39.2.l } : T108)) _ hu5 _ y30 y_3 r39.1 (1#32) _ hr43 w hw).mono fun e w' ⟨v44, he, hc'⟩ => ⟨_, _, he, ⟨v44, rfl, rfl⟩, hc'⟩)) ?_
            rintro _ _ ⟨v44, rfl, rfl⟩
            refine ⟨.inl rfl, ?_⟩
            refine W.cast (m' := m4) (l' := hcells b12 [_, _, _] 108 :: hownT 64 6 Deed.enc v44 _ :: hownT 3 1 encI v8 _ :: l) rfl rfl ?_
            refine W.end ?_
            refine NX.sub (env' := [(3, _), (4, _), (14, _), (15, _), (16, _), (17, _), (19, _), (20, _)]) ⟨rfl, rfl, rfl, rfl, rfl, rfl, rfl, rfl, trivial⟩ ?_
            refine NX.then ?_
            refine Tr.seq ?_
            obtain ⟨r45, hr46, hr⟩ := bind_some hr
            refine Tr.region_f (fun i => Nat.beq i 4) ?_
            refine W.q rfl rfl rfl rfl (by decide) (Yd.mv rfl (.t rfl)) ?_
            refine W.q rfl rfl rfl rfl (by decide) (Yd.mv rfl (.t rfl)) ?_
            refine W.q rfl rfl rfl rfl (by decide) (Yd.mv rfl (.t rfl)) ?_
            refine W.q rfl rfl rfl rfl (by decide) (Yd.mv rfl (.t rfl)) ?_
            refine W.e rfl rfl rfl rfl (by decide) (Ef.call (R := fun z x' => ∃ v47 : Value, z = .tuple #[] ∧ x' = ⟨m4, hcells b12 [u3, .int .i64 r45.n, v47] 108 :: hownT 64 6 Deed.enc v47 r45.l :: hownT 3 1 encI v8 r6 :: l⟩) rfl Try.func53 rfl rfl (.cons (.t rfl) (.cons (.t rfl) (.cons (.t rfl) (.cons (.t rfl) (.cons .c .nil))))) (by intro w hw; replace hw := cX_front (p := 1) hw rfl; replace hw := cX_front (p := 1) hw rfl; exact (grant_maker_hop_ok w0 _ _ _ (({ graph := r1.1, n := r42.n, l := r42.l } : T108)) _ hu5 _ y_3 y37 r39.1 (1#32) _ hr46 w hw).mono fun e w' ⟨v47, he, hc'⟩ => ⟨_, _, he, ⟨v47, rfl, rfl⟩, hc'⟩)) ?_
            rintro _ _ ⟨v47, rfl, rfl⟩
            refine ⟨.inl rfl, ?_⟩
            refine W.cast (m' := m4) (l' := hcells b12 [_, _, _] 108 :: hownT 64 6 Deed.enc v47 _ :: hownT 3 1 encI v8 _ :: l) rfl rfl ?_
            refine W.end ?_
            refine NX.sub (env' := [(3, _), (4, _), (14, _), (15, _), (16, _), (17, _), (19, _), (20, _)]) ⟨rfl, rfl, rfl, rfl, rfl, rfl, rfl, rfl, trivial⟩ ?_
            refine NX.then ?_
            refine Tr.seq ?_
            obtain ⟨r48, hr49, hr⟩ := bind_some hr
            refine Tr.region_f (fun i => Nat.beq i 5) ?_
            refine W.q rfl rfl rfl rfl (by decide) (Yd.mv rfl (.t rfl)) ?_
            refine W.q rfl rfl rfl rfl (by decide) (Yd.mv rfl (.t rfl)) ?_
            refine W.q rfl rfl rfl rfl (by decide) (Yd.mv rfl (.t rfl)) ?_
            refine W.q rfl rfl rfl rfl (by decide) (Yd.mv rfl (.t rfl)) ?_
            refine W.q rfl rfl rfl rfl (by decide) (Yd.mv rfl (.t rfl)) ?_
            refine W.e rfl rfl rfl rfl (by decide) (Ef.call (R := fun z x' => ∃ v50 : Value, z = .tuple #[] ∧ x' = ⟨m4, hcells b12 [u3, .int .i64 r48.n, v50] 108 :: hownT 64 6 Deed.enc v50 r48.l :: hownT 3 1 encI v8 r6 :: l⟩) rfl Try.func55 rfl rfl (.cons (.t rfl) (.cons .c (.cons (.t rfl) (.cons (.t rfl) (.cons (.t rfl) (.cons (.t rfl) .nil)))))) (by intro w hw; replace hw := cX_front (p := 1) hw rfl; replace hw := cX_front (p := 1) hw rfl; exact (grant_maker_put_ok w0 _ _ _ (({ graph := r1.1, n := r45.n, l := r45.l } : T108)) _ hu5 _ ((2 : Int)) y30 r39.1 y_3 right_4 _ hr49 w hw).mono fun e w' ⟨v50, he, hc'⟩ => ⟨_, _, he, ⟨v50, rfl, rfl⟩, hc'⟩)) ?_
            rintro _ _ ⟨v50, rfl, rfl⟩
            refine ⟨.inl rfl, ?_⟩
            refine W.cast (m' := m4) (l' := hcells b12 [_, _, _] 108 :: hownT 64 6 Deed.enc v50 _ :: hownT 3 1 encI v8 _ :: l) rfl rfl ?_
            refine W.end ?_
            refine NX.sub (env' := [(3, _), (4, _), (14, _), (15, _), (16, _), (19, _), (20, _)]) ⟨rfl, rfl, rfl, rfl, rfl, rfl, rfl, trivial⟩ ?_
            refine NX.then ?_
            refine Tr.seq ?_
            obtain ⟨r51, hr52, hr⟩ := bind_some hr
            refine Tr.region_f (fun i => Nat.beq i 5) ?_
            refine W.q rfl rfl rfl rfl (by decide) (Yd.mv rfl (.t rfl)) ?_
            refine W.q rfl rfl rfl rfl (by decide) (Yd.mv rfl (.t rfl)) ?_
            refine W.q rfl rfl rfl rfl (by decide) (Yd.mv rfl (.t rfl)) ?_
            refine W.q rfl rfl rfl rfl (by decide) (Yd.mv rfl (.t rfl)) ?_
            refine W.q rfl rfl rfl rfl (by decide) (Yd.mv rfl (.t rfl)) ?_
            refine W.e rfl rfl rfl rfl (by decide) (Ef.call (R := fun z x' => ∃ v53 : Value, z = .tuple #[] ∧ x' = ⟨m4, hcells b12 [u3, .int .i64 r51.n, v53] 108 :: hownT 64 6 Deed.enc v53 r51.l :: hownT 3 1 encI v8 r6 :: l⟩) rfl Try.func55 rfl rfl (.cons (.t rfl) (.cons .c (.cons (.t rfl) (.cons (.t rfl) (.cons (.t rfl) (.cons (.t rfl) .nil)))))) (by intro w hw; replace hw := cX_front (p := 1) hw rfl; replace hw := cX_front (p := 1) hw rfl; exact (grant_maker_put_ok w0 _ _ _ (({ graph := r1.1, n := r48.n, l := r48.l } : T108)) _ hu5 _ ((1 : Int)) y37 r39.1 y_3 right_4 _ hr52 w hw).mono fun e w' ⟨v53, he, hc'⟩ => ⟨_, _, he, ⟨v53, rfl, rfl⟩, hc'⟩)) ?_
            rintro _ _ ⟨v53, rfl, rfl⟩
            refine ⟨.inl rfl, ?_⟩
            refine W.cast (m' := m4) (l' := hcells b12 [_, _, _] 108 :: hownT 64 6 Deed.enc v53 _ :: hownT 3 1 encI v8 _ :: l) rfl rfl ?_
            refine W.end ?_
            refine NX.sub (env' := [(3, _), (4, _), (14, _), (15, _), (16, _)]) ⟨rfl, rfl, rfl, rfl, rfl, trivial⟩ ?_
            refine NX.then ?_
            refine Tr.region_f (fun _ => false) ?_
            refine W.q rfl rfl rfl rfl (by decide) (Yd.mv rfl (.t rfl)) ?_
            refine W.q rfl rfl rfl rfl (by decide) (Yd.add rfl (.t rfl) .c) ?_
            refine W.q rfl rfl rfl rfl (by decide) (Yd.as rfl (.t rfl)) ?_
            refine W.end ?_
            refine NX.sub (env' := [(3, _), (4, _), (14, _), (15, _), (16, _)]) ⟨rfl, rfl, rfl, rfl, rfl, trivial⟩ ?_
            refine NX.block ?_
            refine NX.then ?_
            refine Tr.region_f (fun _ => false) ?_
            refine W.q rfl rfl rfl rfl (by decide) (Yd.mv rfl (.t rfl)) ?_
            refine W.q rfl rfl rfl rfl (by decide) (Yd.add rfl (.t rfl) .c) ?_
            refine W.q rfl rfl rfl rfl (by decide) (Yd.as rfl (.t rfl)) ?_
            refine W.end ?_
            refine NX.sub (env' := [(3, _), (4, _), (14, _), (15, _), (16, _)]) ⟨rfl, rfl, rfl, rfl, rfl, trivial⟩ ?_
            refine NX.sub (env' := [(3, _), (4, _), (14, _), (15, _), (16, _)]) ⟨rfl, rfl, rfl, rfl, rfl, trivial⟩ ?_
            exact NX.again n29 ((w64 ((w64 (k_18 + (1 : Int))) + (1 : Int))), r51.n, r51.l) (Nat.lt_succ_self _) ⟨_, rfl, rfl, ((hnx28 _).symm.trans hr)⟩
        · have hr := cond_f hb hr
          refine Tr.exit' (EX.then (EX.then (EX.block ?_)))
          refine NX.sub (env' := [(15, _)]) ⟨rfl, trivial⟩ ?_
          refine NX.drop (l' := hcells b12 [_, _, _] 108 :: hownT 64 6 Deed.enc v21 _ :: l) (.cons_cons _ (.cons_cons _ (.cons _ (.refl _)))) ?_
          exact hk26 _ _ ⟨_, _, _, rfl, rfl, hr⟩

def syllogistref_Grant_c1 (i_0 : Int) (cp_0 : Int) : Option (Bool) :=
  some (((decide (i_0 ≥ (0 : Int))) && (decide (i_0 < cp_0))))

set_option maxRecDepth 100000 in
set_option maxHeartbeats 4000000 in
theorem syllogistref_Grant_c1_ok (w0 : World) (m : Snap) (l : List HI) (i_0 : Int) (fp0 fb0 : Nat) (cp_0 : Int) (hfp0 : l[fp0]? = some (hcells fb0 [.int .i64 cp_0] 3)) (r : Bool) (hr : syllogistref_Grant_c1 i_0 cp_0 = some r) (w : World) (hc : cX w0 ⟨m, l⟩ w) :
    Calls Try.prog 48 [.int .i64 i_0, bp fb0 0].toArray w fun e w' => e = .returned (.bool r) ∧ cX w0 ⟨m, l⟩ w' := by
  unfold syllogistref_Grant_c1 at hr
  refine calls_of_Tr (N := 11) Try.func48 rfl hc rfl (Nat.le_of_ble_eq_true rfl) ?_
  refine Tr.seq ?_
  refine Tr.region_f (fun _ => false) ?_
  refine W.q rfl rfl rfl rfl (by decide) (Yd.as rfl .c) ?_
  refine W.end ?_
  refine NX.sub (env' := [(0, _), (1, _)]) ⟨rfl, rfl, trivial⟩ ?_
  refine NX.then ?_
  refine Tr.seq ?_
  refine Tr.region_f (fun _ => false) ?_
  refine W.q rfl rfl rfl rfl (by decide) (Yd.mv rfl (.t rfl)) ?_
  refine W.q rfl rfl rfl rfl (by decide) (Yd.geq rfl (.t rfl) .c) ?_
  refine W.q rfl rfl rfl rfl (by decide) (Yd.mv rfl (.t rfl)) ?_
  refine W.g rfl rfl rfl rfl rfl (.t rfl _) rfl (by decide) (fun hG => Yd.mv rfl (.t rfl)) ?_
  refine W.g rfl rfl rfl rfl rfl (.t rfl _) rfl (by decide) (fun hG => Yd.ldB (pos := fp0) hfp0 rfl rfl ON3 (.t rfl)) ?_
  refine W.g rfl rfl rfl rfl rfl (.t rfl _) rfl (by decide) (fun hG => Yd.lss rfl (.g rfl hG) (.g rfl hG)) ?_
  refine W.q rfl rfl rfl rfl (by decide) (Yd.and rfl (.t rfl) .c rfl rfl) ?_
  refine W.q rfl rfl rfl rfl (by decide) (Yd.as rfl (.t rfl)) ?_
  refine W.end ?_
  refine NX.sub (env' := [(3, _)]) ⟨rfl, trivial⟩ ?_
  refine NX.then ?_
  refine Tr.ret' ?_
  refine res1 rfl rfl ?_
  intro w hc
  cases hr
  exact ⟨rfl, hc⟩

def syllogistref_Grant_k42 (l29 : List Int) (c31 : Int) (l40 : List Edge) : Option (Graph) :=
  some (({ codes := l29, n := c31, edges := l40 } : Graph))

def syllogistref_Grant_k61 (nx51 : ((List Edge) → Option (Graph))) (l59 : List Edge) : Option (Graph) :=
  nx51 l59

def syllogistref_Grant_b65 (l27 : List Edge) (a_49 : Int) (b_64 : Int) (l57 : List Edge) (nx66 : (List Edge) → Option (Graph)) : Option (Graph) :=
  (syllogistref_Over l27 a_49 b_64).bind fun r68 =>
  (bif (r68 != 0#32) then
  (syllogistref_Over l27 a_49 b_64).bind fun r70 =>
  bif decide (l57.length + (([({ src := a_49, to := b_64, rights := r70 } : Edge)] : List Edge)).length ≤ 5864062014805) then
  nx66 (l57 ++ ([({ src := a_49, to := b_64, rights := r70 } : Edge)] : List Edge)) else none
  else
  nx66 l57)

def syllogistref_Grant_b50 (l27 : List Edge) (c31 : Int) (a_49 : Int) (l38 : List Edge) (nx51 : (List Edge) → Option (Graph)) : Option (Graph) :=
  bif decide (c31 ≤ 9223372036854775807) then
  forK (σ := (List Edge)) (fun i s nx_ => syllogistref_Grant_b65 l27 a_49 i s nx_) (fun s => syllogistref_Grant_k61 nx51 s) (c31 - (0 : Int)).toNat (0 : Int) l38 else none

def syllogistref_Grant_k32 (l27 : List Edge) (l29 : List Int) (c31 : Int) : Option (Graph) :=
  bif decide (c31 ≤ 9223372036854775807) then
  forK (σ := (List Edge)) (fun i s nx_ => syllogistref_Grant_b50 l27 c31 i s nx_) (fun s => syllogistref_Grant_k42 l29 c31 s) (c31 - (0 : Int)).toNat (0 : Int) (([] : List Edge)) else none

def syllogistref_Grant_k89 (l24 : List Int) (nx79 : (((List Edge) × (List Int) × Int) → Option (Graph))) (e_85 : Int) (l86 : List Edge) (c88 : Int) : Option (Graph) :=
  bif decide (l24.length + (([e_85] : List Int)).length ≤ 17592186044416) then
  nx79 (l86, (l24 ++ ([e_85] : List Int)), c88) else none

def syllogistref_Grant_k131 (l24 : List Int) (c26 : Int) (nx79 : (((List Edge) × (List Int) × Int) → Option (Graph))) (l129 : List Edge) : Option (Graph) :=
  syllogistref_Grant_k89 l24 nx79 ((0 : Int)) l129 c26

def syllogistref_Grant_b133 (l24 : List Int) (c26 : Int) (nx79 : (((List Edge) × (List Int) × Int) → Option (Graph))) (y81 : Deed) (i_126 : Int) (l127 : List Edge) (nx134 : (Int × (List Edge)) → Option (Graph)) : Option (Graph) :=
  (bif (decide (i_126 < (l127.length : Int))) then
  (geti l127 i_126).bind fun y136 =>
  (bif ((y136.src == y81.by_) && (y136.to == y81.to)) then
  (geti l127 i_126).bind fun y138 =>
  nx134 ((w64 (i_126 + (1 : Int))), (l127.set i_126.toNat (({ src := y138.src, to := y138.to, rights := (y138.rights &&& ~~~y81.label.parts) } : Edge))))
  else
  nx134 ((w64 (i_126 + (1 : Int))), l127))
  else
  syllogistref_Grant_k131 l24 c26 nx79 l127)

def syllogistref_Grant_b78 (script_2 : List Deed) (fuel : Nat) (t_77 : Int) (l22 : List Edge) (l24 : List Int) (c26 : Int) (nx79 : ((List Edge) × (List Int) × Int) → Option (Graph)) : Option (Graph) :=
  (geti script_2 t_77).bind fun y81 =>
  (bif ((decide (y81.kind < (1 : Int))) || (decide (y81.kind > (4 : Int)))) then
  syllogistref_Grant_k89 l24 nx79 ((6 : Int)) l22 c26
  else
  (syllogistref_Grant_c1 y81.by_ c26).bind fun r95 =>
  bif (!(((!r95) == false) && ((y81.kind != (3 : Int)) == true)) || (syllogistref_Grant_c1 y81.to c26).isSome) then
  (bif ((!r95) || ((y81.kind != (3 : Int)) && ((!(((syllogistref_Grant_c1 y81.to c26).getD false))) || (y81.to == y81.by_)))) then
  syllogistref_Grant_k89 l24 nx79 ((2 : Int)) l22 c26
  else
  bif (!(((y81.kind == (1 : Int)) || (y81.kind == (2 : Int))) == true) || (syllogistref_Grant_c1 y81.label.level c26).isSome) then
  (bif (((((y81.kind == (1 : Int)) || (y81.kind == (2 : Int))) && (!(((syllogistref_Grant_c1 y81.label.level c26).getD false)))) || ((y81.kind == (1 : Int)) && (y81.label.level == y81.by_))) || ((y81.kind == (2 : Int)) && (y81.label.level == y81.to))) then
  syllogistref_Grant_k89 l24 nx79 ((2 : Int)) l22 c26
  else
  (bif (y81.kind == (1 : Int)) then
  (syllogistref_Over l22 y81.by_ y81.to).bind fun r99 =>
  (syllogistref_In (1#32) r99).bind fun r101 =>
  bif (!((!r101) == false) || (syllogistref_Over l22 y81.to y81.label.level).isSome) then
  bif (!((!r101) == false) || (syllogistref_In y81.label.parts ((((syllogistref_Over l22 y81.to y81.label.level).getD (0#32))))).isSome) then
  (bif ((!r101) || (!(((syllogistref_In y81.label.parts ((((syllogistref_Over l22 y81.to y81.label.level).getD (0#32))))).getD false)))) then
  syllogistref_Grant_k89 l24 nx79 ((7 : Int)) l22 c26
  else
  bif decide (l22.length + (([({ src := y81.by_, to := y81.label.level, rights := y81.label.parts } : Edge)] : List Edge)).length ≤ 5864062014805) then
  syllogistref_Grant_k89 l24 nx79 ((0 : Int)) ((l22 ++ ([({ src := y81.by_, to := y81.label.level, rights := y81.label.parts } : Edge)] : List Edge))) c26 else none) else none else none
  else
  (bif (y81.kind == (2 : Int)) then
  (syllogistref_Over l22 y81.by_ y81.to).bind fun r109 =>
  (syllogistref_In (2#32) r109).bind fun r111 =>
  bif (!((!r111) == false) || (syllogistref_Over l22 y81.by_ y81.label.level).isSome) then
  bif (!((!r111) == false) || (syllogistref_In y81.label.parts ((((syllogistref_Over l22 y81.by_ y81.label.level).getD (0#32))))).isSome) then
  (bif ((!r111) || (!(((syllogistref_In y81.label.parts ((((syllogistref_Over l22 y81.by_ y81.label.level).getD (0#32))))).getD false)))) then
  syllogistref_Grant_k89 l24 nx79 ((7 : Int)) l22 c26
  else
  bif decide (l22.length + (([({ src := y81.to, to := y81.label.level, rights := y81.label.parts } : Edge)] : List Edge)).length ≤ 5864062014805) then
  syllogistref_Grant_k89 l24 nx79 ((0 : Int)) ((l22 ++ ([({ src := y81.to, to := y81.label.level, rights := y81.label.parts } : Edge)] : List Edge))) c26 else none) else none else none
  else
  (bif (y81.kind == (3 : Int)) then
  (bif (decide (c26 ≥ (14 : Int))) then
  syllogistref_Grant_k89 l24 nx79 ((1 : Int)) l22 c26
  else
  bif decide (l22.length + (([({ src := y81.by_, to := c26, rights := 3#32 } : Edge)] : List Edge)).length ≤ 5864062014805) then
  syllogistref_Grant_k89 l24 nx79 ((0 : Int)) ((l22 ++ ([({ src := y81.by_, to := c26, rights := 3#32 } : Edge)] : List Edge))) ((w64 (c26 + (1 : Int)))) else none)
  else
  whileK (σ := Int × (List Edge)) (fun s nx_ => syllogistref_Grant_b133 l24 c26 nx79 y81 s.1 s.2 nx_) fuel (((0 : Int)), l22))))) else none) else none)

def syllogistref_Grant (fuel : Nat) (n_0 : Int) (edges_1 : List Edge) (script_2 : List Deed) : Option (Graph) :=
  bif decide ((([] : List Edge)).length + edges_1.length ≤ 5864062014805) then
  forK (σ := (List Edge) × (List Int) × Int) (fun i s nx_ => syllogistref_Grant_b78 script_2 fuel i s.1 s.2.1 s.2.2 nx_) (fun s => syllogistref_Grant_k32 s.1 s.2.1 s.2.2) ((script_2.length : Int) - (0 : Int)).toNat (0 : Int) (((([] : List Edge) ++ edges_1)), (([] : List Int)), n_0) else none

set_option maxRecDepth 100000 in
set_option maxHeartbeats 4000000 in
theorem syllogistref_Grant_ok (w0 : World) (m : Snap) (l : List HI) (fuel : Nat) (n_0 : Int) (uedges_1 : Value) (edges_1 : List Edge) (hedges_1 : RS rEdge m uedges_1 edges_1) (uscript_2 : Value) (script_2 : List Deed) (hscript_2 : RS rDeed m uscript_2 script_2) (r : Graph) (hr : syllogistref_Grant fuel n_0 edges_1 script_2 = some r) (w : World) (hc : cX w0 ⟨m, l⟩ w) :
    Calls Try.prog 24 [.int .i64 n_0, uedges_1, uscript_2].toArray w fun e w' => ∃ z0 : Value, ∃ z1 : Value, ∃ m1 : Snap, e = .returned (.agg #[z0, .int .i64 r.n, z1]) ∧ Sle m m1 ∧ RS rI m1 z0 r.codes ∧ RS rEdge m1 z1 r.edges ∧ cX w0 ⟨m1, l⟩ w' := by
  unfold syllogistref_Grant at hr
  refine calls_of_Tr (N := 247) Try.func24 rfl hc rfl (Nat.le_of_ble_eq_true rfl) ?_
  refine Tr.seq ?_
  refine Tr.addnil 25 1 ?_
  refine Tr.cast (m' := m) (l' := hownT 25 1 encI (.slice none 0 0) (([] : List Int)) :: l) rfl rfl ?_
  refine Tr.addnil 100 3 ?_
  refine Tr.cast (m' := m) (l' := hownT 100 3 Edge.enc (.slice none 0 0) (([] : List Edge)) :: hownT 25 1 encI (.slice none 0 0) (([] : List Int)) :: l) rfl rfl ?_
  refine Tr.region_f (fun i => Nat.beq i 0 || Nat.beq i 1) ?_
  refine W.e rfl rfl rfl rfl (by decide) (Ef.bx rfl (.t rfl) rfl) ?_
  rintro _ _ ⟨b3, rfl, rfl⟩
  refine ⟨.inl rfl, ?_⟩
  refine W.cast (m' := m) (l' := hcells b3 [_] 3 :: hownT 100 3 Edge.enc (.slice none 0 0) (([] : List Edge)) :: hownT 25 1 encI (.slice none 0 0) (([] : List Int)) :: l) rfl rfl ?_
  refine W.e rfl rfl rfl rfl (by decide) (Ef.al rfl ZR47 rfl) ?_
  rintro _ _ ⟨b5, rfl, rfl⟩
  refine ⟨.inl rfl, ?_⟩
  refine W.cast (m' := m) (l' := hcells b5 [_, _, _] 47 :: hcells b3 [_] 3 :: hownT 100 3 Edge.enc (.slice none 0 0) (([] : List Edge)) :: hownT 25 1 encI (.slice none 0 0) (([] : List Int)) :: l) rfl rfl ?_
  refine W.end ?_
  refine NX.sub (env' := [(1, _), (2, _), (3, _), (6, _)]) ⟨rfl, rfl, rfl, rfl, trivial⟩ ?_
  refine NX.then ?_
  refine Tr.seq ?_
  refine Tr.addnil 25 1 ?_
  refine Tr.cast (m' := m) (l' := hownT 25 1 encI (.slice none 0 0) (([] : List Int)) :: hcells b5 [(.slice none 0 0), .int .i64 ((0 : Int)), (.slice none 0 0)] 47 :: hcells b3 [.int .i64 n_0] 3 :: hownT 100 3 Edge.enc (.slice none 0 0) (([] : List Edge)) :: hownT 25 1 encI (.slice none 0 0) (([] : List Int)) :: l) rfl rfl ?_
  refine Tr.addnil 100 3 ?_
  refine Tr.cast (m' := m) (l' := hownT 100 3 Edge.enc (.slice none 0 0) (([] : List Edge)) :: hownT 25 1 encI (.slice none 0 0) (([] : List Int)) :: hcells b5 [(.slice none 0 0), .int .i64 ((0 : Int)), (.slice none 0 0)] 47 :: hcells b3 [.int .i64 n_0] 3 :: hownT 100 3 Edge.enc (.slice none 0 0) (([] : List Edge)) :: hownT 25 1 encI (.slice none 0 0) (([] : List Int)) :: l) rfl rfl ?_
  refine Tr.region_f (fun i => Nat.beq i 1 || Nat.beq i 2) ?_
  refine W.q rfl rfl rfl rfl (by decide) (Yd.bld (cells := [.slice none 0 0, .int .i64 ((0 : Int)), .slice none 0 0]) rfl ZI47 PL47 .nil rfl) ?_
  refine W.e rfl rfl rfl rfl (by decide) (Ef.al rfl ZR47 rfl) ?_
  rintro _ _ ⟨b9, rfl, rfl⟩
  refine ⟨.inl rfl, ?_⟩
  refine W.cast (m' := m) (l' := hcells b9 [_, _, _] 47 :: hownT 100 3 Edge.enc (.slice none 0 0) (([] : List Edge)) :: hownT 25 1 encI (.slice none 0 0) (([] : List Int)) :: hcells b5 [_, _, _] 47 :: hcells b3 [_] 3 :: hownT 100 3 Edge.enc (.slice none 0 0) (([] : List Edge)) :: hownT 25 1 encI (.slice none 0 0) (([] : List Int)) :: l) rfl rfl ?_
  refine W.s rfl rfl rfl rfl (Ef.stB (pos := 0) (us := [_, _, _]) (cs' := [_, _, _]) rfl rfl (.t rfl) (.t rfl) SZ47 rfl rfl rfl (Nat.le_of_ble_eq_true rfl) rfl) ?_
  rintro _ _ ⟨rfl, rfl⟩
  refine ⟨.inl rfl, ?_⟩
  refine W.cast (m' := m) (l' := hcells b9 [_, _, _] 47 :: hownT 100 3 Edge.enc (.slice none 0 0) (([] : List Edge)) :: hownT 25 1 encI (.slice none 0 0) (([] : List Int)) :: hcells b5 [_, _, _] 47 :: hcells b3 [_] 3 :: hownT 100 3 Edge.enc (.slice none 0 0) (([] : List Edge)) :: hownT 25 1 encI (.slice none 0 0) (([] : List Int)) :: l) rfl rfl ?_
  refine W.end ?_
  refine NX.sub (env' := [(1, _), (2, _), (3, _), (6, _), (7, _)]) ⟨rfl, rfl, rfl, rfl, rfl, trivial⟩ ?_
  refine NX.then ?_
  refine Tr.seq ?_
  obtain ⟨hq14, hr⟩ := guard_some hr; replace hq14 := of_decide_eq_true hq14
  refine Tr.region_f (fun i => Nat.beq i 0 || Nat.beq i 2) ?_
  refine W.e rfl rfl rfl rfl (by decide) (Ef.bsT (enc := Edge.enc) (vs := []) (ys := []) (fun _ => rfl) IF100 rfl Try.underlying43 (by decide) rfl .nil rfl rfl (by decide)) ?_
  rintro v11 _ rfl
  refine ⟨.inl rfl, ?_⟩
  refine W.cast (m' := m) (l' := hownT 100 3 Edge.enc v11 _ :: hcells b9 [_, _, _] 47 :: hownT 100 3 Edge.enc (.slice none 0 0) (([] : List Edge)) :: hownT 25 1 encI (.slice none 0 0) (([] : List Int)) :: hcells b5 [_, _, _] 47 :: hcells b3 [_] 3 :: hownT 100 3 Edge.enc (.slice none 0 0) (([] : List Edge)) :: hownT 25 1 encI (.slice none 0 0) (([] : List Int)) :: l) rfl rfl ?_
  refine W.q rfl rfl rfl rfl (by decide) (Yd.mv rfl (.t rfl)) ?_
  refine W.e rfl rfl rfl rfl (by decide) (Ef.apI (pos := 0) (enc := Edge.enc) (xs := ([] : List Edge)) (ys := edges_1) (fun _ => rfl) IF100 rfl rfl Try.underlying43 rfl (by decide) (.t rfl) (.t rfl) (Src.rs (by decide) (.refl _) hedges_1) (fun _ => rfl) (by omega) (by omega)) ?_
  rintro v13 _ rfl
  refine ⟨.inl rfl, ?_⟩
  refine W.cast (m' := m) (l' := hownT 100 3 Edge.enc v13 _ :: hcells b9 [_, _, _] 47 :: hownT 100 3 Edge.enc (.slice none 0 0) (([] : List Edge)) :: hownT 25 1 encI (.slice none 0 0) (([] : List Int)) :: hcells b5 [_, _, _] 47 :: hcells b3 [_] 3 :: hownT 100 3 Edge.enc (.slice none 0 0) (([] : List Edge)) :: hownT 25 1 encI (.slice none 0 0) (([] : List Int)) :: l) rfl rfl ?_
  refine W.q rfl rfl rfl rfl (by decide) (Yd.as rfl (.t rfl)) ?_
  refine W.end ?_
  refine NX.sub (env' := [(2, _), (3, _), (6, _), (7, _), (8, _)]) ⟨rfl, rfl, rfl, rfl, rfl, trivial⟩ ?_
  refine NX.then ?_
  refine Tr.seq ?_
  refine Tr.region_f (fun _ => false) ?_
  refine W.q rfl rfl rfl rfl (by decide) (Yd.mkf rfl (.cons (.t rfl) .nil)) ?_
  refine W.q rfl rfl rfl rfl (by decide) (Yd.as rfl (.t rfl)) ?_
  refine W.end ?_
  refine NX.sub (env' := [(2, _), (3, _), (6, _), (7, _), (8, _), (9, _)]) ⟨rfl, rfl, rfl, rfl, rfl, rfl, trivial⟩ ?_
  refine NX.then ?_
  refine Tr.seq ?_
  refine Tr.seq ?_
  refine Tr.region_f (fun _ => false) ?_
  refine W.q rfl rfl rfl rfl (by decide) (Yd.mv rfl (.t rfl)) ?_
  refine W.q rfl rfl rfl rfl (by decide) (Yd.lenR hscript_2 rfl Try.underlying44 (.t rfl)) ?_
  refine W.q rfl rfl rfl rfl (by decide) (Yd.mv rfl .c) ?_
  refine W.end ?_
  refine NX.sub (env' := [(3, _), (6, _), (7, _), (8, _), (9, _), (23, _), (24, _), (25, _)]) ⟨rfl, rfl, rfl, rfl, rfl, rfl, rfl, rfl, trivial⟩ ?_
  refine NX.then ?_
  refine Tr.join (S := fun env x => ∃ l27 : List Edge, ∃ l29 : List Int, ∃ c31 : Int, ∃ v28 : Value, ∃ v30 : Value, env = [(3, bp b3 0), (6, bp b5 0), (7, bp b9 0), (8, v28)] ∧ x = ⟨m, hownT 100 3 Edge.enc v28 l27 :: hcells b9 [v30, .int .i64 ((0 : Int)), (.slice none 0 0)] 47 :: hownT 100 3 Edge.enc (.slice none 0 0) (([] : List Edge)) :: hownT 25 1 encI v30 l29 :: hcells b5 [(.slice none 0 0), .int .i64 ((0 : Int)), (.slice none 0 0)] 47 :: hcells b3 [.int .i64 c31] 3 :: hownT 100 3 Edge.enc (.slice none 0 0) (([] : List Edge)) :: hownT 25 1 encI (.slice none 0 0) (([] : List Int)) :: l⟩ ∧ syllogistref_Grant_k32 l27 l29 c31 = some r) ?_ (fun hk33 => ?_)
  · rintro _ _ ⟨l27, l29, c31, v28, v30, rfl, rfl, hr⟩
    unfold syllogistref_Grant_k32 at hr
    try dsimp only at hr
    refine NX.then ?_
    refine Tr.seq ?_
    refine Tr.region_f (fun i => Nat.beq i 2) ?_
    refine W.q rfl rfl rfl rfl (by decide) (Yd.ldB (pos := 5) rfl rfl rfl ON3 (.t rfl)) ?_
    refine W.q rfl rfl rfl rfl (by decide) (Yd.fldB rfl Try.underlying47 rfl SZ3 rfl (.t rfl)) ?_
    refine W.s rfl rfl rfl rfl (Ef.stB (pos := 1) (us := [_]) (cs' := [_, _, _]) rfl rfl (.t rfl) (.t rfl) SZ3 rfl rfl rfl (Nat.le_of_ble_eq_true rfl) rfl) ?_
    rintro _ _ ⟨rfl, rfl⟩
    refine ⟨.inl rfl, ?_⟩
    refine W.cast (m' := m) (l' := hownT 100 3 Edge.enc v28 _ :: hcells b9 [_, _, _] 47 :: hownT 100 3 Edge.enc (.slice none 0 0) (([] : List Edge)) :: hownT 25 1 encI v30 _ :: hcells b5 [_, _, _] 47 :: hcells b3 [_] 3 :: hownT 100 3 Edge.enc (.slice none 0 0) (([] : List Edge)) :: hownT 25 1 encI (.slice none 0 0) (([] : List Int)) :: l) rfl rfl ?_
    refine W.end ?_
    refine NX.sub (env' := [(3, _), (6, _), (7, _), (8, _)]) ⟨rfl, rfl, rfl, rfl, trivial⟩ ?_
    refine NX.then ?_
    refine Tr.seq ?_
    refine Tr.seq ?_
    refine Tr.region_f (fun _ => false) ?_
    refine W.q rfl rfl rfl rfl (by decide) (Yd.as rfl .c) ?_
    refine W.end ?_
    refine NX.sub (env' := [(3, _), (6, _), (7, _), (8, _), (16, _)]) ⟨rfl, rfl, rfl, rfl, rfl, trivial⟩ ?_
    refine NX.then ?_
    refine Tr.join (S := fun env x => ∃ l40 : List Edge, ∃ v41 : Value, env = [(6, bp b5 0), (7, bp b9 0)] ∧ x = ⟨m, hcells b9 [v30, .int .i64 c31, v41] 47 :: hownT 100 3 Edge.enc v41 l40 :: hownT 25 1 encI v30 l29 :: hcells b5 [(.slice none 0 0), .int .i64 ((0 : Int)), (.slice none 0 0)] 47 :: hownT 100 3 Edge.enc (.slice none 0 0) (([] : List Edge)) :: hownT 25 1 encI (.slice none 0 0) (([] : List Int)) :: l⟩ ∧ syllogistref_Grant_k42 l29 c31 l40 = some r) ?_ (fun hk43 => ?_)
    · rintro _ _ ⟨l40, v41, rfl, rfl, hr⟩
      unfold syllogistref_Grant_k42 at hr
      try dsimp only at hr
      refine NX.then ?_
      refine Tr.seq ?_
      refine Tr.region_f (fun i => Nat.beq i 1) ?_
      refine W.q rfl rfl rfl rfl (by decide) (Yd.ldBs (pos := 0) (us := [_, _, _]) rfl rfl rfl rfl ON47 US47 SZ47 (.t rfl)) ?_
      refine W.s rfl rfl rfl rfl (Ef.stBs (pos := 3) (us := [v30, .int .i64 c31, v41]) (cs' := [_, _, _]) (.cons (On.own (pos := 2) rfl) (.cons (On.lit rfl) (.cons (On.own (pos := 1) rfl) .nil))) rfl rfl (.t rfl) (.t rfl) SZ47 rfl rfl (Nat.le_of_ble_eq_true rfl) rfl) ?_
      rintro _ _ ⟨rfl, rfl⟩
      refine ⟨.inl rfl, ?_⟩
      refine W.cast (m' := m) (l' := hcells b9 [_, _, _] 47 :: hownT 100 3 Edge.enc v41 _ :: hownT 25 1 encI v30 _ :: hcells b5 [_, _, _] 47 :: hownT 100 3 Edge.enc (.slice none 0 0) (([] : List Edge)) :: hownT 25 1 encI (.slice none 0 0) (([] : List Int)) :: l) rfl rfl ?_
      refine W.end ?_
      refine NX.sub (env' := [(6, _)]) ⟨rfl, trivial⟩ ?_
      refine NX.drop (l' := hownT 100 3 Edge.enc v41 _ :: hownT 25 1 encI v30 _ :: hcells b5 [_, _, _] 47 :: l) (.cons _ (.cons_cons _ (.cons_cons _ (.cons_cons _ (.cons _ (.cons _ (.refl _))))))) ?_
      refine NX.then ?_
      refine Tr.ret' ?_
      refine resV1 rfl (Rv.cs (pos := 2) rfl rfl rfl ON47 US47 SZ47) ?_
      intro w hc
      cases hr
      obtain ⟨m44, hsm44, hu45, hc⟩ := cX_freeze (enc := encI) (n := 1) (p := 1) (fun _ => rfl) hc rfl
      have hedges_1 := hedges_1.mono hsm44
      have hscript_2 := hscript_2.mono hsm44
      obtain ⟨m46, hsm46, hu47, hc⟩ := cX_freeze (enc := Edge.enc) (n := 3) (p := 0) (fun _ => rfl) hc rfl
      have hedges_1 := hedges_1.mono hsm46
      have hscript_2 := hscript_2.mono hsm46
      have hu45 := hu45.mono hsm46
      exact ⟨_, _, _, rfl, (hsm44.trans hsm46), hu45, hu47, (cX_sub (.cons _ (.refl _)) hc)⟩
    obtain ⟨hle48, hr⟩ := guard_some hr; replace hle48 := of_decide_eq_true hle48
    refine Tr.block ?_
    refine Tr.sub (env' := [(3, _), (6, _), (7, _), (8, _), (16, _)]) ⟨rfl, rfl, rfl, rfl, rfl, trivial⟩ ?_
    refine Tr.loop (S := fun n (z : Int × (List Edge)) env x => match z with | (a_49, l38) => ∃ v39 : Value, env = [(3, bp b3 0), (6, bp b5 0), (7, bp b9 0), (8, v28), (16, .int .i64 a_49)] ∧ x = ⟨m, hownT 100 3 Edge.enc v28 l27 :: hcells b9 [v30, .int .i64 c31, v39] 47 :: hownT 100 3 Edge.enc v39 l38 :: hownT 25 1 encI v30 l29 :: hcells b5 [(.slice none 0 0), .int .i64 ((0 : Int)), (.slice none 0 0)] 47 :: hcells b3 [.int .i64 c31] 3 :: hownT 100 3 Edge.enc (.slice none 0 0) (([] : List Edge)) :: hownT 25 1 encI (.slice none 0 0) (([] : List Int)) :: l⟩ ∧ n = (c31 - a_49).toNat ∧ 0 ≤ a_49 ∧ forK (σ := (List Edge)) (fun i s nx_ => syllogistref_Grant_b50 l27 c31 i s nx_) (fun s => syllogistref_Grant_k42 l29 c31 s) n a_49 l38 = some r) _ ((0 : Int), ([] : List Edge)) ⟨_, rfl, rfl, rfl, (by omega), hr⟩ ?_
    rintro n52 ⟨a_49, l38⟩ env x ⟨v39, rfl, rfl, hna_49, h0a_49, hr⟩
    cases n52 with
    | zero =>
      simp only [forK] at hr
      refine Tr.seq ?_
      refine Tr.seq ?_
      refine Tr.region_f (fun _ => false) ?_
      refine W.q rfl rfl rfl rfl (by decide) (Yd.mv rfl (.t rfl)) ?_
      refine W.q rfl rfl rfl rfl (by decide) (Yd.ldB (pos := 5) rfl rfl rfl ON3 (.t rfl)) ?_
      refine W.q rfl rfl rfl rfl (by decide) (Yd.lss rfl (.t rfl) (.t rfl)) ?_
      refine W.end ?_
      refine NX.sub (env' := [(3, _), (6, _), (7, _), (8, _), (16, _), (221, _)]) ⟨rfl, rfl, rfl, rfl, rfl, rfl, trivial⟩ ?_
      refine NX.then ?_
      refine Tr.cond (.t rfl) (fun hb => ?_) (fun hb => ?_)
      · exact absurd (hb.symm.trans (fr_end hna_49)) (by decide)
      ·
        refine Tr.exit' (EX.then (EX.then (EX.block ?_)))
        refine NX.sub (env' := [(6, _), (7, _)]) ⟨rfl, rfl, trivial⟩ ?_
        refine NX.drop (l' := hcells b9 [_, _, _] 47 :: hownT 100 3 Edge.enc v39 _ :: hownT 25 1 encI v30 _ :: hcells b5 [_, _, _] 47 :: hownT 100 3 Edge.enc (.slice none 0 0) (([] : List Edge)) :: hownT 25 1 encI (.slice none 0 0) (([] : List Int)) :: l) (.cons _ (.cons_cons _ (.cons_cons _ (.cons_cons _ (.cons_cons _ (.cons _ (.cons_cons _ (.cons_cons _ (.refl _))))))))) ?_
        exact hk43 _ _ ⟨_, _, rfl, rfl, hr⟩
    | succ n52 =>
      obtain ⟨nx51, hnx51, hr⟩ := forK_succ hr
      try dsimp only at hr
      unfold syllogistref_Grant_b50 at hr
      try dsimp only at hr
      have hlta_49 := fr_bnd hna_49
      refine Tr.seq ?_
      refine Tr.seq ?_
      refine Tr.region_f (fun _ => false) ?_
      refine W.q rfl rfl rfl rfl (by decide) (Yd.mv rfl (.t rfl)) ?_
      refine W.q rfl rfl rfl rfl (by decide) (Yd.ldB (pos := 5) rfl rfl rfl ON3 (.t rfl)) ?_
      refine W.q rfl rfl rfl rfl (by decide) (Yd.lss rfl (.t rfl) (.t rfl)) ?_
      refine W.end ?_
      refine NX.sub (env' := [(3, _), (6, _), (7, _), (8, _), (16, _), (221, _)]) ⟨rfl, rfl, rfl, rfl, rfl, rfl, trivial⟩ ?_
      refine NX.then ?_
      refine Tr.cond (.t rfl) (fun hb => ?_) (fun hb => ?_)
      rotate_left
      · exact absurd (hb.symm.trans (fr_go hna_49)) (by decide)
      ·
        refine Tr.skip' ?_
        refine NX.then ?_
        refine Tr.seq ?_
        refine Tr.block ?_
        refine Tr.seq ?_
        refine Tr.region_f (fun _ => false) ?_
        refine W.q rfl rfl rfl rfl (by decide) (Yd.as rfl .c) ?_
        refine W.end ?_
        refine NX.sub (env' := [(3, _), (6, _), (7, _), (8, _), (16, _), (17, _)]) ⟨rfl, rfl, rfl, rfl, rfl, rfl, trivial⟩ ?_
        refine NX.then ?_
        refine Tr.join (S := fun env x => ∃ l59 : List Edge, ∃ v60 : Value, env = [(3, bp b3 0), (6, bp b5 0), (7, bp b9 0), (8, v28), (16, .int .i64 a_49)] ∧ x = ⟨m, hownT 100 3 Edge.enc v28 l27 :: hcells b9 [v30, .int .i64 c31, v60] 47 :: hownT 100 3 Edge.enc v60 l59 :: hownT 25 1 encI v30 l29 :: hcells b5 [(.slice none 0 0), .int .i64 ((0 : Int)), (.slice none 0 0)] 47 :: hcells b3 [.int .i64 c31] 3 :: hownT 100 3 Edge.enc (.slice none 0 0) (([] : List Edge)) :: hownT 25 1 encI (.slice none 0 0) (([] : List Int)) :: l⟩ ∧ syllogistref_Grant_k61 nx51 l59 = some r) ?_ (fun hk62 => ?_)
        · rintro _ _ ⟨l59, v60, rfl, rfl, hr⟩
          unfold syllogistref_Grant_k61 at hr
          try dsimp only at hr
          refine NX.block ?_
          refine NX.then ?_
          refine Tr.region_f (fun _ => false) ?_
          refine W.q rfl rfl rfl rfl (by decide) (Yd.mv rfl (.t rfl)) ?_
          refine W.q rfl rfl rfl rfl (by decide) (Yd.add rfl (.t rfl) .c) ?_
          refine W.q rfl rfl rfl rfl (by decide) (Yd.as rfl (.t rfl)) ?_
          refine W.end ?_
          refine NX.sub (env' := [(3, _), (6, _), (7, _), (8, _), (16, _)]) ⟨rfl, rfl, rfl, rfl, rfl, trivial⟩ ?_
          refine NX.sub (env' := [(3, _), (6, _), (7, _), (8, _), (16, _)]) ⟨rfl, rfl, rfl, rfl, rfl, trivial⟩ ?_
          have hw := w64_id (n := a_49 + 1) (by omega) (by omega)
          exact NX.again n52 (a_49 + 1, l59) (Nat.lt_succ_self _) ⟨_, (by rw [hw] <;> rfl), rfl, (fr_dec hna_49), (by omega), ((hnx51 _).symm.trans hr)⟩
        obtain ⟨hle63, hr⟩ := guard_some hr; replace hle63 := of_decide_eq_true hle63
        refine Tr.block ?_
        refine Tr.sub (env' := [(3, _), (6, _), (7, _), (8, _), (16, _), (17, _)]) ⟨rfl, rfl, rfl, rfl, rfl, rfl, trivial⟩ ?_
        refine Tr.loop (S := fun n (z : Int × (List Edge)) env x => match z with | (b_64, l57) => ∃ v58 : Value, env = [(3, bp b3 0), (6, bp b5 0), (7, bp b9 0), (8, v28), (16, .int .i64 a_49), (17, .int .i64 b_64)] ∧ x = ⟨m, hownT 100 3 Edge.enc v28 l27 :: hcells b9 [v30, .int .i64 c31, v58] 47 :: hownT 100 3 Edge.enc v58 l57 :: hownT 25 1 encI v30 l29 :: hcells b5 [(.slice none 0 0), .int .i64 ((0 : Int)), (.slice none 0 0)] 47 :: hcells b3 [.int .i64 c31] 3 :: hownT 100 3 Edge.enc (.slice none 0 0) (([] : List Edge)) :: hownT 25 1 encI (.slice none 0 0) (([] : List Int)) :: l⟩ ∧ n = (c31 - b_64).toNat ∧ 0 ≤ b_64 ∧ forK (σ := (List Edge)) (fun i s nx_ => syllogistref_Grant_b65 l27 a_49 i s nx_) (fun s => syllogistref_Grant_k61 nx51 s) n b_64 l57 = some r) _ ((0 : Int), l38) ⟨_, rfl, rfl, rfl, (by omega), hr⟩ ?_
        rintro n67 ⟨b_64, l57⟩ env x ⟨v58, rfl, rfl, hnb_64, h0b_64, hr⟩
        cases n67 with
        | zero =>
          simp only [forK] at hr
          refine Tr.seq ?_
          refine Tr.seq ?_
          refine Tr.region_f (fun _ => false) ?_
          refine W.q rfl rfl rfl rfl (by decide) (Yd.mv rfl (.t rfl)) ?_
          refine W.q rfl rfl rfl rfl (by decide) (Yd.ldB (pos := 5) rfl rfl rfl ON3 (.t rfl)) ?_
          refine W.q rfl rfl rfl rfl (by decide) (Yd.lss rfl (.t rfl) (.t rfl)) ?_
          refine W.end ?_
          refine NX.sub (env' := [(3, _), (6, _), (7, _), (8, _), (16, _), (17, _), (226, _)]) ⟨rfl, rfl, rfl, rfl, rfl, rfl, rfl, trivial⟩ ?_
          refine NX.then ?_
          refine Tr.cond (.t rfl) (fun hb => ?_) (fun hb => ?_)
          · exact absurd (hb.symm.trans (fr_end hnb_64)) (by decide)
          ·
            refine Tr.exit' (EX.then (EX.then (EX.block ?_)))
            refine NX.sub (env' := [(3, _), (6, _), (7, _), (8, _), (16, _)]) ⟨rfl, rfl, rfl, rfl, rfl, trivial⟩ ?_
            exact hk62 _ _ ⟨_, _, rfl, rfl, hr⟩
        | succ n67 =>
          obtain ⟨nx66, hnx66, hr⟩ := forK_succ hr
          try dsimp only at hr
          unfold syllogistref_Grant_b65 at hr
          try dsimp only at hr
          have hltb_64 := fr_bnd hnb_64
          refine Tr.seq ?_
          refine Tr.seq ?_
          refine Tr.region_f (fun _ => false) ?_
          refine W.q rfl rfl rfl rfl (by decide) (Yd.mv rfl (.t rfl)) ?_
          refine W.q rfl rfl rfl rfl (by decide) (Yd.ldB (pos := 5) rfl rfl rfl ON3 (.t rfl)) ?_
          refine W.q rfl rfl rfl rfl (by decide) (Yd.lss rfl (.t rfl) (.t rfl)) ?_
          refine W.end ?_
          refine NX.sub (env' := [(3, _), (6, _), (7, _), (8, _), (16, _), (17, _), (226, _)]) ⟨rfl, rfl, rfl, rfl, rfl, rfl, rfl, trivial⟩ ?_
          refine NX.then ?_
          refine Tr.cond (.t rfl) (fun hb => ?_) (fun hb => ?_)
          rotate_left
          · exact absurd (hb.symm.trans (fr_go hnb_64)) (by decide)
          ·
            refine Tr.skip' ?_
            refine NX.then ?_
            refine Tr.seq ?_
            refine Tr.block ?_
            refine Tr.seq ?_
            obtain ⟨r68, hr69, hr⟩ := bind_some hr
            refine Tr.region_f (fun _ => false) ?_
            refine W.q rfl rfl rfl rfl (by decide) (Yd.mv rfl (.t rfl)) ?_
            refine W.q rfl rfl rfl rfl (by decide) (Yd.mv rfl (.t rfl)) ?_
            refine W.q rfl rfl rfl rfl (by decide) (Yd.mv rfl (.t rfl)) ?_
            refine W.q rfl rfl rfl rfl (by decide) (Yd.call (v := .int .u32 (r68.toNat : Int)) rfl Try.func31 rfl rfl (.cons (.t rfl) (.cons (.t rfl) (.cons (.t rfl) .nil))) (by intro x' hx w hw; obtain ⟨p0, hp0⟩ := hx.at (p := 0) rfl; obtain ⟨m2, hm2, hc2, ⟨L2, hl1, hl2⟩, hback⟩ := cX_lend hw hp0 lone_own; have hL1 : RS rEdge m2 _ _ := RS_of_own hl1 hl2; exact (syllogistref_Over_ok w0 m2 _ _ _ hL1 a_49 b_64 _ hr69 w hc2).mono fun e w' ⟨he, hc'⟩ => ⟨he, (hback m2 _ _ w' (.refl _) hp0).2 hc'⟩)) ?_
            refine W.q rfl rfl rfl rfl (by decide) (Yd.neqU (a := r68) (b := 0#32) rfl (.t rfl) .c) ?_
            refine W.end ?_
            refine NX.sub (env' := [(3, _), (6, _), (7, _), (8, _), (16, _), (17, _), (233, _)]) ⟨rfl, rfl, rfl, rfl, rfl, rfl, rfl, trivial⟩ ?_
            refine NX.then ?_
            refine Tr.cond (.t rfl) (fun hb => ?_) (fun hb => ?_)
            · have hr := cond_t hb hr
              obtain ⟨r70, hr71, hr⟩ := bind_some hr
              obtain ⟨hq75, hr⟩ := guard_some hr; replace hq75 := of_decide_eq_true hq75
              refine Tr.region_x (fun i => Nat.beq i 9 || Nat.beq i 10 || Nat.beq i 12) (fun i => Nat.beq i 10 || Nat.beq i 12) (Ord.of [0, 1, 2, 3, 4, 5, 6, 7, 8, 9, 10, 11, 12]) FM (by kernel_rfl) ?_
              refine W.q rfl rfl rfl rfl (by decide) (Yd.fldB rfl Try.underlying47 rfl SZ43 rfl (.t rfl)) ?_
              refine W.q rfl rfl rfl rfl (by decide) (Yd.ldB (pos := 1) rfl rfl rfl ON43 (.t rfl)) ?_
              refine W.q rfl rfl rfl rfl (by decide) (Yd.mv rfl (.t rfl)) ?_
              refine W.q rfl rfl rfl rfl (by decide) (Yd.mv rfl (.t rfl)) ?_
              refine W.q rfl rfl rfl rfl (by decide) (Yd.mv rfl (.t rfl)) ?_
              refine W.q rfl rfl rfl rfl (by decide) (Yd.mv rfl (.t rfl)) ?_
              refine W.q rfl rfl rfl rfl (by decide) (Yd.mv rfl (.t rfl)) ?_
              refine W.q rfl rfl rfl rfl (by decide) (Yd.call (v := .int .u32 (r70.toNat : Int)) rfl Try.func31 rfl rfl (.cons (.t rfl) (.cons (.t rfl) (.cons (.t rfl) .nil))) (by intro x' hx w hw; obtain ⟨p0, hp0⟩ := hx.at (p := 0) rfl; obtain ⟨m2, hm2, hc2, ⟨L2, hl1, hl2⟩, hback⟩ := cX_lend hw hp0 lone_own; have hL1 : RS rEdge m2 _ _ := RS_of_own hl1 hl2; exact (syllogistref_Over_ok w0 m2 _ _ _ hL1 a_49 b_64 _ hr71 w hc2).mono fun e w' ⟨he, hc'⟩ => ⟨he, (hback m2 _ _ w' (.refl _) hp0).2 hc'⟩)) ?_
              refine W.q rfl rfl rfl rfl (by decide) (Yd.bld (cells := [.int .i64 a_49, .int .i64 b_64, .int .u32 (r70.toNat : Int)]) rfl ZI100 PL100 (.cons (.t rfl) (.cons (.t rfl) (.cons (.t rfl) .nil))) rfl) ?_
              refine W.e rfl rfl rfl rfl (by decide) (Ef.bsT (enc := Edge.enc) (vs := [_]) (ys := [({ src := a_49, to := b_64, rights := r70 } : Edge)]) (fun _ => rfl) IF100 rfl Try.underlying43 (by decide) rfl (.cons (.t rfl) .nil) rfl rfl (by decide)) ?_
              rintro v72 _ rfl
              refine ⟨.inr ⟨.refl _, [_], rfl⟩, ?_⟩
              refine W.cast (m' := m) (l' := hownT 100 3 Edge.enc v72 _ :: hownT 100 3 Edge.enc v28 _ :: hcells b9 [_, _, _] 47 :: hownT 100 3 Edge.enc v58 _ :: hownT 25 1 encI v30 _ :: hcells b5 [_, _, _] 47 :: hcells b3 [_] 3 :: hownT 100 3 Edge.enc (.slice none 0 0) (([] : List Edge)) :: hownT 25 1 encI (.slice none 0 0) (([] : List Int)) :: l) rfl rfl ?_
              refine W.e rfl rfl rfl rfl (by decide) (Ef.apI (pos := 3) (enc := Edge.enc) (xs := l57) (ys := ([({ src := a_49, to := b_64, rights := r70 } : Edge)] : List Edge)) (fun _ => rfl) IF100 rfl rfl Try.underlying43 rfl (by decide) (.t rfl) (.t rfl) (Src.own (pos := 0) rfl) (fun _ => rfl) (by omega) (by omega)) ?_
              rintro v74 _ rfl
              refine ⟨.inl rfl, ?_⟩
              refine W.cast (m' := m) (l' := hownT 100 3 Edge.enc v72 _ :: hownT 100 3 Edge.enc v28 _ :: hcells b9 [_, _, _] 47 :: hownT 100 3 Edge.enc v74 _ :: hownT 25 1 encI v30 _ :: hcells b5 [_, _, _] 47 :: hcells b3 [_] 3 :: hownT 100 3 Edge.enc (.slice none 0 0) (([] : List Edge)) :: hownT 25 1 encI (.slice none 0 0) (([] : List Int)) :: l) rfl rfl ?_
              refine W.q rfl rfl rfl rfl (by decide) (Yd.fldB rfl Try.underlying47 rfl SZ43 rfl (.t rfl)) ?_
              refine W.s rfl rfl rfl rfl (Ef.stBo (pos := 2) (pos2 := 3) (cs' := [_, _, _]) rfl rfl rfl (.t rfl) (.t rfl) SZ43 (Nat.le_of_ble_eq_true rfl) rfl) ?_
              rintro _ _ ⟨rfl, rfl⟩
              refine ⟨.inl rfl, ?_⟩
              refine W.cast (m' := m) (l' := hownT 100 3 Edge.enc v72 _ :: hownT 100 3 Edge.enc v28 _ :: hcells b9 [_, _, _] 47 :: hownT 100 3 Edge.enc v74 _ :: hownT 25 1 encI v30 _ :: hcells b5 [_, _, _] 47 :: hcells b3 [_] 3 :: hownT 100 3 Edge.enc (.slice none 0 0) (([] : List Edge)) :: hownT 25 1 encI (.slice none 0 0) (([] : List Int)) :: l) rfl rfl ?_
              refine W.end ?_
              refine NX.sub (env' := [(3, _), (6, _), (7, _), (8, _), (16, _), (17, _)]) ⟨rfl, rfl, rfl, rfl, rfl, rfl, trivial⟩ ?_
              refine NX.drop (l' := hownT 100 3 Edge.enc v28 _ :: hcells b9 [_, _, _] 47 :: hownT 100 3 Edge.enc v74 _ :: hownT 25 1 encI v30 _ :: hcells b5 [_, _, _] 47 :: hcells b3 [_] 3 :: hownT 100 3 Edge.enc (.slice none 0 0) (([] : List Edge)) :: hownT 25 1 encI (.slice none 0 0) (([] : List Int)) :: l) (.cons _ (.cons_cons _ (.cons_cons _ (.cons_cons _ (.cons_cons _ (.cons_cons _ (.cons_cons _ (.cons_cons _ (.cons_cons _ (.refl _)))))))))) ?_
              refine NX.block ?_
              refine NX.then ?_
              refine Tr.region_f (fun _ => false) ?_
              refine W.q rfl rfl rfl rfl (by decide) (Yd.mv rfl (.t rfl)) ?_
              refine W.q rfl rfl rfl rfl (by decide) (Yd.add rfl (.t rfl) .c) ?_
              refine W.q rfl rfl rfl rfl (by decide) (Yd.as rfl (.t rfl)) ?_
              refine W.end ?_
              refine NX.sub (env' := [(3, _), (6, _), (7, _), (8, _), (16, _), (17, _)]) ⟨rfl, rfl, rfl, rfl, rfl, rfl, trivial⟩ ?_
              refine NX.sub (env' := [(3, _), (6, _), (7, _), (8, _), (16, _), (17, _)]) ⟨rfl, rfl, rfl, rfl, rfl, rfl, trivial⟩ ?_
              have hw := w64_id (n := b_64 + 1) (by omega) (by omega)
              exact NX.again n67 (b_64 + 1, (l57 ++ ([({ src := a_49, to := b_64, rights := r70 } : Edge)] : List Edge))) (Nat.lt_succ_self _) ⟨_, (by rw [hw] <;> rfl), rfl, (fr_dec hnb_64), (by omega), ((hnx66 _).symm.trans hr)⟩
            · have hr := cond_f hb hr
              refine Tr.skip' ?_
              refine NX.block ?_
              refine NX.then ?_
              refine Tr.region_f (fun _ => false) ?_
              refine W.q rfl rfl rfl rfl (by decide) (Yd.mv rfl (.t rfl)) ?_
              refine W.q rfl rfl rfl rfl (by decide) (Yd.add rfl (.t rfl) .c) ?_
              refine W.q rfl rfl rfl rfl (by decide) (Yd.as rfl (.t rfl)) ?_
              refine W.end ?_
              refine NX.sub (env' := [(3, _), (6, _), (7, _), (8, _), (16, _), (17, _)]) ⟨rfl, rfl, rfl, rfl, rfl, rfl, trivial⟩ ?_
              refine NX.sub (env' := [(3, _), (6, _), (7, _), (8, _), (16, _), (17, _)]) ⟨rfl, rfl, rfl, rfl, rfl, rfl, trivial⟩ ?_
              have hw := w64_id (n := b_64 + 1) (by omega) (by omega)
              exact NX.again n67 (b_64 + 1, l57) (Nat.lt_succ_self _) ⟨_, (by rw [hw] <;> rfl), rfl, (fr_dec hnb_64), (by omega), ((hnx66 _).symm.trans hr)⟩
  have hlen76 := (hscript_2).2.1
  refine Tr.block ?_
  refine Tr.sub (env' := [(3, _), (6, _), (7, _), (8, _), (9, _), (23, _), (24, _), (25, _)]) ⟨rfl, rfl, rfl, rfl, rfl, rfl, rfl, rfl, trivial⟩ ?_
  refine Tr.loop (S := fun n (z : Int × (List Edge) × (List Int) × Int) env x => match z with | (t_77, l22, l24, c26) => ∃ v23 : Value, ∃ v25 : Value, env = [(3, bp b3 0), (6, bp b5 0), (7, bp b9 0), (8, v23), (9, .func (.func 48) #[] #[bp b3 0]), (23, uscript_2), (24, .int .i64 ((script_2.length : Int))), (25, .int .i64 t_77)] ∧ x = ⟨m, hownT 100 3 Edge.enc v23 l22 :: hcells b9 [v25, .int .i64 ((0 : Int)), (.slice none 0 0)] 47 :: hownT 100 3 Edge.enc (.slice none 0 0) (([] : List Edge)) :: hownT 25 1 encI v25 l24 :: hcells b5 [(.slice none 0 0), .int .i64 ((0 : Int)), (.slice none 0 0)] 47 :: hcells b3 [.int .i64 c26] 3 :: hownT 100 3 Edge.enc (.slice none 0 0) (([] : List Edge)) :: hownT 25 1 encI (.slice none 0 0) (([] : List Int)) :: l⟩ ∧ n = ((script_2.length : Int) - t_77).toNat ∧ 0 ≤ t_77 ∧ forK (σ := (List Edge) × (List Int) × Int) (fun i s nx_ => syllogistref_Grant_b78 script_2 fuel i s.1 s.2.1 s.2.2 nx_) (fun s => syllogistref_Grant_k32 s.1 s.2.1 s.2.2) n t_77 (l22, l24, c26) = some r) _ ((0 : Int), (([] : List Edge) ++ edges_1), ([] : List Int), n_0) ⟨_, _, rfl, rfl, rfl, (by omega), hr⟩ ?_
  rintro n80 ⟨t_77, l22, l24, c26⟩ env x ⟨v23, v25, rfl, rfl, hnt_77, h0t_77, hr⟩
  cases n80 with
  | zero =>
    simp only [forK] at hr
    refine Tr.seq ?_
    refine Tr.region_f (fun _ => false) ?_
    refine W.q rfl rfl rfl rfl (by decide) (Yd.lss rfl (.t rfl) (.t rfl)) ?_
    refine W.end ?_
    refine NX.sub (env' := [(3, _), (6, _), (7, _), (8, _), (9, _), (23, _), (24, _), (25, _), (26, _)]) ⟨rfl, rfl, rfl, rfl, rfl, rfl, rfl, rfl, rfl, trivial⟩ ?_
    refine NX.then ?_
    refine Tr.seq ?_
    refine Tr.cond (.t rfl) (fun hb => ?_) (fun hb => ?_)
    · exact absurd (hb.symm.trans (fr_end hnt_77)) (by decide)
    ·
      refine Tr.exit' (EX.then (EX.then (EX.block ?_)))
      refine NX.sub (env' := [(3, _), (6, _), (7, _), (8, _)]) ⟨rfl, rfl, rfl, rfl, trivial⟩ ?_
      exact hk33 _ _ ⟨_, _, _, _, _, rfl, rfl, hr⟩
  | succ n80 =>
    obtain ⟨nx79, hnx79, hr⟩ := forK_succ hr
    try dsimp only at hr
    unfold syllogistref_Grant_b78 at hr
    try dsimp only at hr
    have hltt_77 := fr_bnd hnt_77
    refine Tr.seq ?_
    refine Tr.region_f (fun _ => false) ?_
    refine W.q rfl rfl rfl rfl (by decide) (Yd.lss rfl (.t rfl) (.t rfl)) ?_
    refine W.end ?_
    refine NX.sub (env' := [(3, _), (6, _), (7, _), (8, _), (9, _), (23, _), (24, _), (25, _), (26, _)]) ⟨rfl, rfl, rfl, rfl, rfl, rfl, rfl, rfl, rfl, trivial⟩ ?_
    refine NX.then ?_
    refine Tr.seq ?_
    refine Tr.cond (.t rfl) (fun hb => ?_) (fun hb => ?_)
    rotate_left
    · exact absurd (hb.symm.trans (fr_go hnt_77)) (by decide)
    ·
      refine Tr.skip' ?_
      refine NX.then ?_
      refine Tr.seq ?_
      refine Tr.block ?_
      refine Tr.seq ?_
      obtain ⟨y81, hy82, hr⟩ := bind_some hr
      refine Tr.region_f (fun i => Nat.beq i 2 || Nat.beq i 3) ?_
      refine W.q rfl rfl rfl rfl (by decide) (Yd.idxR hscript_2 hy82 rfl Try.underlying44 SZ64 (.t rfl) (.t rfl)) ?_
      refine W.q rfl rfl rfl rfl (by decide) (Yd.ldFs (us := [_, _, _, _, _, _]) hscript_2 (.refl _) hy82 rfl rfl ON64 US64 SZ64 (.t rfl)) ?_
      refine W.e rfl rfl rfl rfl (by decide) (Ef.al rfl ZR64 rfl) ?_
      rintro _ _ ⟨b83, rfl, rfl⟩
      refine ⟨.inl rfl, ?_⟩
      refine W.cast (m' := m) (l' := hcells b83 [_, _, _, _, _, _] 64 :: hownT 100 3 Edge.enc v23 _ :: hcells b9 [_, _, _] 47 :: hownT 100 3 Edge.enc (.slice none 0 0) (([] : List Edge)) :: hownT 25 1 encI v25 _ :: hcells b5 [_, _, _] 47 :: hcells b3 [_] 3 :: hownT 100 3 Edge.enc (.slice none 0 0) (([] : List Edge)) :: hownT 25 1 encI (.slice none 0 0) (([] : List Int)) :: l) rfl rfl ?_
      refine W.s rfl rfl rfl rfl (Ef.stB (pos := 0) (us := [_, _, _, _, _, _]) (cs' := [_, _, _, _, _, _]) rfl rfl (.t rfl) (.t rfl) SZ64 rfl rfl rfl (Nat.le_of_ble_eq_true rfl) rfl) ?_
      rintro _ _ ⟨rfl, rfl⟩
      refine ⟨.inl rfl, ?_⟩
      refine W.cast (m' := m) (l' := hcells b83 [_, _, _, _, _, _] 64 :: hownT 100 3 Edge.enc v23 _ :: hcells b9 [_, _, _] 47 :: hownT 100 3 Edge.enc (.slice none 0 0) (([] : List Edge)) :: hownT 25 1 encI v25 _ :: hcells b5 [_, _, _] 47 :: hcells b3 [_] 3 :: hownT 100 3 Edge.enc (.slice none 0 0) (([] : List Edge)) :: hownT 25 1 encI (.slice none 0 0) (([] : List Int)) :: l) rfl rfl ?_
      refine W.end ?_
      refine NX.sub (env' := [(3, _), (6, _), (7, _), (8, _), (9, _), (23, _), (24, _), (25, _), (11, _)]) ⟨rfl, rfl, rfl, rfl, rfl, rfl, rfl, rfl, rfl, trivial⟩ ?_
      refine NX.then ?_
      refine Tr.seq ?_
      refine Tr.region_f (fun _ => false) ?_
      refine W.q rfl rfl rfl rfl (by decide) (Yd.as rfl .c) ?_
      refine W.end ?_
      refine NX.sub (env' := [(3, _), (6, _), (7, _), (8, _), (9, _), (23, _), (24, _), (25, _), (11, _), (12, _)]) ⟨rfl, rfl, rfl, rfl, rfl, rfl, rfl, rfl, rfl, rfl, trivial⟩ ?_
      refine NX.then ?_
      refine Tr.seq ?_
      refine Tr.region_f (fun _ => false) ?_
      refine W.q rfl rfl rfl rfl (by decide) (Yd.fldB rfl Try.underlying64 rfl SZ62 rfl (.t rfl)) ?_
      refine W.q rfl rfl rfl rfl (by decide) (Yd.fldB rfl Try.underlying62 rfl SZ3 rfl (.t rfl)) ?_
      refine W.q rfl rfl rfl rfl (by decide) (Yd.ldB (pos := 0) rfl rfl rfl ON3 (.t rfl)) ?_
      refine W.q rfl rfl rfl rfl (by decide) (Yd.as rfl (.t rfl)) ?_
      refine W.end ?_
      refine NX.sub (env' := [(3, _), (6, _), (7, _), (8, _), (9, _), (23, _), (24, _), (25, _), (11, _), (12, _), (13, _)]) ⟨rfl, rfl, rfl, rfl, rfl, rfl, rfl, rfl, rfl, rfl, rfl, trivial⟩ ?_
      refine NX.then ?_
      refine Tr.seq ?_
      refine Tr.region_f (fun _ => false) ?_
      refine W.q rfl rfl rfl rfl (by decide) (Yd.fldB rfl Try.underlying64 rfl SZ62 rfl (.t rfl)) ?_
      refine W.q rfl rfl rfl rfl (by decide) (Yd.fldB rfl Try.underlying62 rfl SZ33 rfl (.t rfl)) ?_
      refine W.q rfl rfl rfl rfl (by decide) (Yd.ldB (pos := 0) rfl rfl rfl ON33 (.t rfl)) ?_
      refine W.q rfl rfl rfl rfl (by decide) (Yd.as rfl (.t rfl)) ?_
      refine W.end ?_
      refine NX.sub (env' := [(3, _), (6, _), (7, _), (8, _), (9, _), (23, _), (24, _), (25, _), (11, _), (12, _), (13, _), (14, _)]) ⟨rfl, rfl, rfl, rfl, rfl, rfl, rfl, rfl, rfl, rfl, rfl, rfl, trivial⟩ ?_
      refine NX.then ?_
      refine Tr.seq ?_
      refine Tr.seq ?_
      refine Tr.region_f (fun _ => false) ?_
      refine W.q rfl rfl rfl rfl (by decide) (Yd.fldB rfl Try.underlying64 rfl SZ3 rfl (.t rfl)) ?_
      refine W.q rfl rfl rfl rfl (by decide) (Yd.ldB (pos := 0) rfl rfl rfl ON3 (.t rfl)) ?_
      refine W.q rfl rfl rfl rfl (by decide) (Yd.lss rfl (.t rfl) .c) ?_
      refine W.q rfl rfl rfl rfl (by decide) (Yd.mv rfl (.t rfl)) ?_
      refine W.g rfl rfl rfl rfl rfl (.t rfl _) rfl (by decide) (fun hG => Yd.fldB rfl Try.underlying64 rfl SZ3 rfl (.t rfl)) ?_
      refine W.g rfl rfl rfl rfl rfl (.t rfl _) rfl (by decide) (fun hG => Yd.ldB (pos := 0) rfl rfl rfl ON3 (.g rfl hG)) ?_
      refine W.g rfl rfl rfl rfl rfl (.t rfl _) rfl (by decide) (fun hG => Yd.gtr rfl (.g rfl hG) .c) ?_
      refine W.q rfl rfl rfl rfl (by decide) (Yd.or rfl (.t rfl) .c rfl rfl) ?_
      refine W.end ?_
      refine NX.sub (env' := [(3, _), (6, _), (7, _), (8, _), (9, _), (23, _), (24, _), (25, _), (11, _), (12, _), (13, _), (14, _), (42, _)]) ⟨rfl, rfl, rfl, rfl, rfl, rfl, rfl, rfl, rfl, rfl, rfl, rfl, rfl, trivial⟩ ?_
      refine NX.then ?_
      refine Tr.join (S := fun env x => ∃ e_85 : Int, ∃ l86 : List Edge, ∃ c88 : Int, ∃ v87 : Value, env = [(3, bp b3 0), (6, bp b5 0), (7, bp b9 0), (8, v87), (9, .func (.func 48) #[] #[bp b3 0]), (23, uscript_2), (24, .int .i64 ((script_2.length : Int))), (25, .int .i64 t_77), (12, .int .i64 e_85)] ∧ x = ⟨m, hownT 100 3 Edge.enc v87 l86 :: hcells b9 [v25, .int .i64 ((0 : Int)), (.slice none 0 0)] 47 :: hownT 100 3 Edge.enc (.slice none 0 0) (([] : List Edge)) :: hownT 25 1 encI v25 l24 :: hcells b5 [(.slice none 0 0), .int .i64 ((0 : Int)), (.slice none 0 0)] 47 :: hcells b3 [.int .i64 c88] 3 :: hownT 100 3 Edge.enc (.slice none 0 0) (([] : List Edge)) :: hownT 25 1 encI (.slice none 0 0) (([] : List Int)) :: l⟩ ∧ syllogistref_Grant_k89 l24 nx79 e_85 l86 c88 = some r) ?_ (fun hk90 => ?_)
      · rintro _ _ ⟨e_85, l86, c88, v87, rfl, rfl, hr⟩
        unfold syllogistref_Grant_k89 at hr
        try dsimp only at hr
        refine NX.then ?_
        obtain ⟨hq94, hr⟩ := guard_some hr; replace hq94 := of_decide_eq_true hq94
        refine Tr.region_f (fun i => Nat.beq i 3 || Nat.beq i 4 || Nat.beq i 6) ?_
        refine W.q rfl rfl rfl rfl (by decide) (Yd.fldB rfl Try.underlying47 rfl SZ45 rfl (.t rfl)) ?_
        refine W.q rfl rfl rfl rfl (by decide) (Yd.ldB (pos := 1) rfl rfl rfl ON45 (.t rfl)) ?_
        refine W.q rfl rfl rfl rfl (by decide) (Yd.mv rfl (.t rfl)) ?_
        refine W.e rfl rfl rfl rfl (by decide) (Ef.bsT (enc := encI) (vs := [_]) (ys := [e_85]) (fun _ => rfl) IF25 rfl Try.underlying45 (by decide) rfl (.cons (.t rfl) .nil) rfl rfl (by decide)) ?_
        rintro v91 _ rfl
        refine ⟨.inl rfl, ?_⟩
        refine W.cast (m' := m) (l' := hownT 25 1 encI v91 _ :: hownT 100 3 Edge.enc v87 _ :: hcells b9 [_, _, _] 47 :: hownT 100 3 Edge.enc (.slice none 0 0) (([] : List Edge)) :: hownT 25 1 encI v25 _ :: hcells b5 [_, _, _] 47 :: hcells b3 [_] 3 :: hownT 100 3 Edge.enc (.slice none 0 0) (([] : List Edge)) :: hownT 25 1 encI (.slice none 0 0) (([] : List Int)) :: l) rfl rfl ?_
        refine W.e rfl rfl rfl rfl (by decide) (Ef.apI (pos := 4) (enc := encI) (xs := l24) (ys := ([e_85] : List Int)) (fun _ => rfl) IF25 rfl rfl Try.underlying45 rfl (by decide) (.t rfl) (.t rfl) (Src.own (pos := 0) rfl) (fun _ => rfl) (by omega) (by omega)) ?_
        rintro v93 _ rfl
        refine ⟨.inl rfl, ?_⟩
        refine W.cast (m' := m) (l' := hownT 25 1 encI v91 _ :: hownT 100 3 Edge.enc v87 _ :: hcells b9 [_, _, _] 47 :: hownT 100 3 Edge.enc (.slice none 0 0) (([] : List Edge)) :: hownT 25 1 encI v93 _ :: hcells b5 [_, _, _] 47 :: hcells b3 [_] 3 :: hownT 100 3 Edge.enc (.slice none 0 0) (([] : List Edge)) :: hownT 25 1 encI (.slice none 0 0) (([] : List Int)) :: l) rfl rfl ?_
        refine W.q rfl rfl rfl rfl (by decide) (Yd.fldB rfl Try.underlying47 rfl SZ45 rfl (.t rfl)) ?_
        refine W.s rfl rfl rfl rfl (Ef.stBo (pos := 2) (pos2 := 4) (cs' := [_, _, _]) rfl rfl rfl (.t rfl) (.t rfl) SZ45 (Nat.le_of_ble_eq_true rfl) rfl) ?_
        rintro _ _ ⟨rfl, rfl⟩
        refine ⟨.inl rfl, ?_⟩
        refine W.cast (m' := m) (l' := hownT 25 1 encI v91 _ :: hownT 100 3 Edge.enc v87 _ :: hcells b9 [_, _, _] 47 :: hownT 100 3 Edge.enc (.slice none 0 0) (([] : List Edge)) :: hownT 25 1 encI v93 _ :: hcells b5 [_, _, _] 47 :: hcells b3 [_] 3 :: hownT 100 3 Edge.enc (.slice none 0 0) (([] : List Edge)) :: hownT 25 1 encI (.slice none 0 0) (([] : List Int)) :: l) rfl rfl ?_
        refine W.end ?_
        refine NX.sub (env' := [(3, _), (6, _), (7, _), (8, _), (9, _), (23, _), (24, _), (25, _)]) ⟨rfl, rfl, rfl, rfl, rfl, rfl, rfl, rfl, trivial⟩ ?_
        refine NX.drop (l' := hownT 100 3 Edge.enc v87 _ :: hcells b9 [_, _, _] 47 :: hownT 100 3 Edge.enc (.slice none 0 0) (([] : List Edge)) :: hownT 25 1 encI v93 _ :: hcells b5 [_, _, _] 47 :: hcells b3 [_] 3 :: hownT 100 3 Edge.enc (.slice none 0 0) (([] : List Edge)) :: hownT 25 1 encI (.slice none 0 0) (([] : List Int)) :: l) (.cons _ (.cons_cons _ (.cons_cons _ (.cons_cons _ (.cons_cons _ (.cons_cons _ (.cons_cons _ (.cons_cons _ (.cons_cons _ (.refl _)))))))))) ?_
        refine NX.block ?_
        refine NX.then ?_
        refine Tr.region_f (fun _ => false) ?_
        refine W.q rfl rfl rfl rfl (by decide) (Yd.add rfl (.t rfl) .c) ?_
        refine W.q rfl rfl rfl rfl (by decide) (Yd.mv rfl (.t rfl)) ?_
        refine W.end ?_
        refine NX.sub (env' := [(3, _), (6, _), (7, _), (8, _), (9, _), (23, _), (24, _), (25, _)]) ⟨rfl, rfl, rfl, rfl, rfl, rfl, rfl, rfl, trivial⟩ ?_
        refine NX.sub (env' := [(3, _), (6, _), (7, _), (8, _), (9, _), (23, _), (24, _), (25, _)]) ⟨rfl, rfl, rfl, rfl, rfl, rfl, rfl, rfl, trivial⟩ ?_
        have hw := w64_id (n := t_77 + 1) (by omega) (by omega)
        exact NX.again n80 (t_77 + 1, l86, (l24 ++ ([e_85] : List Int)), c88) (Nat.lt_succ_self _) ⟨_, _, (by rw [hw] <;> rfl), rfl, (fr_dec hnt_77), (by omega), ((hnx79 _).symm.trans hr)⟩
      refine Tr.cond (.t rfl) (fun hb => ?_) (fun hb => ?_)
      · have hr := cond_t hb hr
        refine Tr.region_f (fun _ => false) ?_
        refine W.q rfl rfl rfl rfl (by decide) (Yd.as rfl .c) ?_
        refine W.end ?_
        refine NX.sub (env' := [(3, _), (6, _), (7, _), (8, _), (9, _), (23, _), (24, _), (25, _), (12, _)]) ⟨rfl, rfl, rfl, rfl, rfl, rfl, rfl, rfl, rfl, trivial⟩ ?_
        refine NX.drop (l' := hownT 100 3 Edge.enc v23 _ :: hcells b9 [_, _, _] 47 :: hownT 100 3 Edge.enc (.slice none 0 0) (([] : List Edge)) :: hownT 25 1 encI v25 _ :: hcells b5 [_, _, _] 47 :: hcells b3 [_] 3 :: hownT 100 3 Edge.enc (.slice none 0 0) (([] : List Edge)) :: hownT 25 1 encI (.slice none 0 0) (([] : List Int)) :: l) (.cons _ (.cons_cons _ (.cons_cons _ (.cons_cons _ (.cons_cons _ (.cons_cons _ (.cons_cons _ (.cons_cons _ (.cons_cons _ (.refl _)))))))))) ?_
        refine NX.sub (env' := [(3, _), (6, _), (7, _), (8, _), (9, _), (23, _), (24, _), (25, _), (12, _)]) ⟨rfl, rfl, rfl, rfl, rfl, rfl, rfl, rfl, rfl, trivial⟩ ?_
        exact hk90 _ _ ⟨_, _, _, _, rfl, rfl, hr⟩
      · have hr := cond_f hb hr
        refine Tr.seq ?_
        obtain ⟨r95, hr96, hr⟩ := bind_some hr
        obtain ⟨ha97, hr⟩ := guard_some hr
        refine Tr.region_f (fun _ => false) ?_
        refine W.q rfl rfl rfl rfl (by decide) (Yd.mv rfl (.t rfl)) ?_
        refine W.q rfl rfl rfl rfl (by decide) (Yd.fldB rfl Try.underlying64 rfl SZ3 rfl (.t rfl)) ?_
        refine W.q rfl rfl rfl rfl (by decide) (Yd.ldB (pos := 0) rfl rfl rfl ON3 (.t rfl)) ?_
        refine W.q rfl rfl rfl rfl (by decide) (Yd.callC (v := .bool r95) rfl (.t rfl) Try.func48 rfl rfl (.cons (.t rfl) .nil) (by intro x' hx w hw; obtain ⟨p5, hp5⟩ := hx.at (p := 6) rfl; exact syllogistref_Grant_c1_ok w0 x'.m x'.l y81.by_ p5 _ c26 hp5 _ hr96 w hw)) ?_
        refine W.q rfl rfl rfl rfl (by decide) (Yd.not rfl (.t rfl)) ?_
        refine W.q rfl rfl rfl rfl (by decide) (Yd.mv rfl (.t rfl)) ?_
        refine W.g rfl rfl rfl rfl rfl (.t rfl _) rfl (by decide) (fun hG => Yd.fldB rfl Try.underlying64 rfl SZ3 rfl (.t rfl)) ?_
        refine W.g rfl rfl rfl rfl rfl (.t rfl _) rfl (by decide) (fun hG => Yd.ldB (pos := 0) rfl rfl rfl ON3 (.g rfl hG)) ?_
        refine W.g rfl rfl rfl rfl rfl (.t rfl _) rfl (by decide) (fun hG => Yd.neq rfl (.g rfl hG) .c) ?_
        refine W.g rfl rfl rfl rfl rfl (.t rfl _) rfl (by decide) (fun hG => Yd.mv rfl (.g rfl hG)) ?_
        refine W.g rfl rfl rfl rfl rfl (.g rfl _) rfl (by decide) (fun hG => Yd.mv rfl (.t rfl)) ?_
        refine W.g rfl rfl rfl rfl rfl (.g rfl _) rfl (by decide) (fun hG => Yd.fldB rfl Try.underlying64 rfl SZ3 rfl (.t rfl)) ?_
        refine W.g rfl rfl rfl rfl rfl (.g rfl _) rfl (by decide) (fun hG => Yd.ldB (pos := 0) rfl rfl rfl ON3 (.g rfl hG)) ?_
        refine W.g rfl rfl rfl rfl rfl (.g rfl _) rfl (by decide) (fun hG => Yd.callC (v := .bool ((((syllogistref_Grant_c1 y81.to c26).getD false)))) rfl (.g rfl hG) Try.func48 rfl rfl (.cons (.g rfl hG) .nil) (by intro x' hx w hw; obtain ⟨p5, hp5⟩ := hx.at (p := 6) rfl; exact syllogistref_Grant_c1_ok w0 x'.m x'.l y81.to p5 _ c26 hp5 _ (gd_get (d := false) ha97 hG) w hw)) ?_
        refine W.g rfl rfl rfl rfl rfl (.g rfl _) rfl (by decide) (fun hG => Yd.not rfl (.g rfl hG)) ?_
        refine W.g rfl rfl rfl rfl rfl (.g rfl _) rfl (by decide) (fun hG => Yd.mv rfl (.g rfl hG)) ?_
        refine W.g rfl rfl rfl rfl rfl (.g rfl _) rfl (by decide) (fun hG => Yd.fldB rfl Try.underlying64 rfl SZ3 rfl (.t rfl)) ?_
        refine W.g rfl rfl rfl rfl rfl (.g rfl _) rfl (by decide) (fun hG => Yd.ldB (pos := 0) rfl rfl rfl ON3 (.g rfl hG)) ?_
        refine W.g rfl rfl rfl rfl rfl (.g rfl _) rfl (by decide) (fun hG => Yd.fldB rfl Try.underlying64 rfl SZ3 rfl (.t rfl)) ?_
        refine W.g rfl rfl rfl rfl rfl (.g rfl _) rfl (by decide) (fun hG => Yd.ldB (pos := 0) rfl rfl rfl ON3 (.g rfl hG)) ?_
        refine W.g rfl rfl rfl rfl rfl (.g rfl _) rfl (by decide) (fun hG => Yd.eql rfl (.g rfl hG) (.g rfl hG)) ?_
        refine W.g rfl rfl rfl rfl rfl (.g rfl _) rfl (by decide) (fun hG => Yd.orG rfl (.g rfl hG) .c rfl rfl hG) ?_
        refine W.g rfl rfl rfl rfl rfl (.t rfl _) rfl (by decide) (fun hG => Yd.andG rfl (.g rfl hG) .c rfl rfl hG) ?_
        refine W.q rfl rfl rfl rfl (by decide) (Yd.or rfl (.t rfl) .c rfl rfl) ?_
        refine W.end ?_
        refine NX.sub (env' := [(3, _), (6, _), (7, _), (8, _), (9, _), (23, _), (24, _), (25, _), (11, _), (12, _), (13, _), (14, _), (66, _)]) ⟨rfl, rfl, rfl, rfl, rfl, rfl, rfl, rfl, rfl, rfl, rfl, rfl, rfl, trivial⟩ ?_
        refine NX.then ?_
        refine Tr.cond (.t rfl) (fun hb => ?_) (fun hb => ?_)
        · have hr := cond_t hb hr
          refine Tr.region_f (fun _ => false) ?_
          refine W.q rfl rfl rfl rfl (by decide) (Yd.as rfl .c) ?_
          refine W.end ?_
          refine NX.sub (env' := [(3, _), (6, _), (7, _), (8, _), (9, _), (23, _), (24, _), (25, _), (12, _)]) ⟨rfl, rfl, rfl, rfl, rfl, rfl, rfl, rfl, rfl, trivial⟩ ?_
          refine NX.drop (l' := hownT 100 3 Edge.enc v23 _ :: hcells b9 [_, _, _] 47 :: hownT 100 3 Edge.enc (.slice none 0 0) (([] : List Edge)) :: hownT 25 1 encI v25 _ :: hcells b5 [_, _, _] 47 :: hcells b3 [_] 3 :: hownT 100 3 Edge.enc (.slice none 0 0) (([] : List Edge)) :: hownT 25 1 encI (.slice none 0 0) (([] : List Int)) :: l) (.cons _ (.cons_cons _ (.cons_cons _ (.cons_cons _ (.cons_cons _ (.cons_cons _ (.cons_cons _ (.cons_cons _ (.cons_cons _ (.refl _)))))))))) ?_
          refine NX.sub (env' := [(3, _), (6, _), (7, _), (8, _), (9, _), (23, _), (24, _), (25, _), (12, _)]) ⟨rfl, rfl, rfl, rfl, rfl, rfl, rfl, rfl, rfl, trivial⟩ ?_
          exact hk90 _ _ ⟨_, _, _, _, rfl, rfl, hr⟩
        · have hr := cond_f hb hr
          refine Tr.seq ?_
          obtain ⟨ha98, hr⟩ := guard_some hr
          refine Tr.region_f (fun _ => false) ?_
          refine W.q rfl rfl rfl rfl (by decide) (Yd.fldB rfl Try.underlying64 rfl SZ3 rfl (.t rfl)) ?_
          refine W.q rfl rfl rfl rfl (by decide) (Yd.ldB (pos := 0) rfl rfl rfl ON3 (.t rfl)) ?_
          refine W.q rfl rfl rfl rfl (by decide) (Yd.eql rfl (.t rfl) .c) ?_
          refine W.q rfl rfl rfl rfl (by decide) (Yd.mv rfl (.t rfl)) ?_
          refine W.g rfl rfl rfl rfl rfl (.t rfl _) rfl (by decide) (fun hG => Yd.fldB rfl Try.underlying64 rfl SZ3 rfl (.t rfl)) ?_
          refine W.g rfl rfl rfl rfl rfl (.t rfl _) rfl (by decide) (fun hG => Yd.ldB (pos := 0) rfl rfl rfl ON3 (.g rfl hG)) ?_
          refine W.g rfl rfl rfl rfl rfl (.t rfl _) rfl (by decide) (fun hG => Yd.eql rfl (.g rfl hG) .c) ?_
          refine W.q rfl rfl rfl rfl (by decide) (Yd.or rfl (.t rfl) .c rfl rfl) ?_
          refine W.q rfl rfl rfl rfl (by decide) (Yd.mv rfl (.t rfl)) ?_
          refine W.g rfl rfl rfl rfl rfl (.t rfl _) rfl (by decide) (fun hG => Yd.mv rfl (.t rfl)) ?_
          refine W.g rfl rfl rfl rfl rfl (.t rfl _) rfl (by decide) (fun hG => Yd.mv rfl (.t rfl)) ?_
          refine W.g rfl rfl rfl rfl rfl (.t rfl _) rfl (by decide) (fun hG => Yd.callC (v := .bool ((((syllogistref_Grant_c1 y81.label.level c26).getD false)))) rfl (.g rfl hG) Try.func48 rfl rfl (.cons (.g rfl hG) .nil) (by intro x' hx w hw; obtain ⟨p5, hp5⟩ := hx.at (p := 6) rfl; exact syllogistref_Grant_c1_ok w0 x'.m x'.l y81.label.level p5 _ c26 hp5 _ (gd_get (d := false) ha98 hG) w hw)) ?_
          refine W.g rfl rfl rfl rfl rfl (.t rfl _) rfl (by decide) (fun hG => Yd.not rfl (.g rfl hG)) ?_
          refine W.q rfl rfl rfl rfl (by decide) (Yd.and rfl (.t rfl) .c rfl rfl) ?_
          refine W.q rfl rfl rfl rfl (by decide) (Yd.mv rfl (.t rfl)) ?_
          refine W.g rfl rfl rfl rfl rfl (.t rfl _) rfl (by decide) (fun hG => Yd.fldB rfl Try.underlying64 rfl SZ3 rfl (.t rfl)) ?_
          refine W.g rfl rfl rfl rfl rfl (.t rfl _) rfl (by decide) (fun hG => Yd.ldB (pos := 0) rfl rfl rfl ON3 (.g rfl hG)) ?_
          refine W.g rfl rfl rfl rfl rfl (.t rfl _) rfl (by decide) (fun hG => Yd.eql rfl (.g rfl hG) .c) ?_
          refine W.g rfl rfl rfl rfl rfl (.t rfl _) rfl (by decide) (fun hG => Yd.mv rfl (.g rfl hG)) ?_
          refine W.g rfl rfl rfl rfl rfl (.g rfl _) rfl (by decide) (fun hG => Yd.mv rfl (.t rfl)) ?_
          refine W.g rfl rfl rfl rfl rfl (.g rfl _) rfl (by decide) (fun hG => Yd.fldB rfl Try.underlying64 rfl SZ3 rfl (.t rfl)) ?_
          refine W.g rfl rfl rfl rfl rfl (.g rfl _) rfl (by decide) (fun hG => Yd.ldB (pos := 0) rfl rfl rfl ON3 (.g rfl hG)) ?_
          refine W.g rfl rfl rfl rfl rfl (.g rfl _) rfl (by decide) (fun hG => Yd.eql rfl (.g rfl hG) (.g rfl hG)) ?_
          refine W.g rfl rfl rfl rfl rfl (.t rfl _) rfl (by decide) (fun hG => Yd.andG rfl (.g rfl hG) .c rfl rfl hG) ?_
          refine W.q rfl rfl rfl rfl (by decide) (Yd.or rfl (.t rfl) .c rfl rfl) ?_
          refine W.q rfl rfl rfl rfl (by decide) (Yd.mv rfl (.t rfl)) ?_
          refine W.g rfl rfl rfl rfl rfl (.t rfl _) rfl (by decide) (fun hG => Yd.fldB rfl Try.underlying64 rfl SZ3 rfl (.t rfl)) ?_
          refine W.g rfl rfl rfl rfl rfl (.t rfl _) rfl (by decide) (fun hG => Yd.ldB (pos := 0) rfl rfl rfl ON3 (.g rfl hG)) ?_
          refine W.g rfl rfl rfl rfl rfl (.t rfl _) rfl (by decide) (fun hG => Yd.eql rfl (.g rfl hG) .c) ?_
          refine W.g rfl rfl rfl rfl rfl (.t rfl _) rfl (by decide) (fun hG => Yd.mv rfl (.g rfl hG)) ?_
          refine W.g rfl rfl rfl rfl rfl (.g rfl _) rfl (by decide) (fun hG => Yd.mv rfl (.t rfl)) ?_
          refine W.g rfl rfl rfl rfl rfl (.g rfl _) rfl (by decide) (fun hG => Yd.fldB rfl Try.underlying64 rfl SZ3 rfl (.t rfl)) ?_
          refine W.g rfl rfl rfl rfl rfl (.g rfl _) rfl (by decide) (fun hG => Yd.ldB (pos := 0) rfl rfl rfl ON3 (.g rfl hG)) ?_
          refine W.g rfl rfl rfl rfl rfl (.g rfl _) rfl (by decide) (fun hG => Yd.eql rfl (.g rfl hG) (.g rfl hG)) ?_
          refine W.g rfl rfl rfl rfl rfl (.t rfl _) rfl (by decide) (fun hG => Yd.andG rfl (.g rfl hG) .c rfl rfl hG) ?_
          refine W.q rfl rfl rfl rfl (by decide) (Yd.or rfl (.t rfl) .c rfl rfl) ?_
          refine W.end ?_
          refine NX.sub (env' := [(3, _), (6, _), (7, _), (8, _), (9, _), (23, _), (24, _), (25, _), (11, _), (12, _), (13, _), (14, _), (102, _)]) ⟨rfl, rfl, rfl, rfl, rfl, rfl, rfl, rfl, rfl, rfl, rfl, rfl, rfl, trivial⟩ ?_
          refine NX.then ?_
          refine Tr.cond (.t rfl) (fun hb => ?_) (fun hb => ?_)
          · have hr := cond_t hb hr
            refine Tr.region_f (fun _ => false) ?_
            refine W.q rfl rfl rfl rfl (by decide) (Yd.as rfl .c) ?_
            refine W.end ?_
            refine NX.sub (env' := [(3, _), (6, _), (7, _), (8, _), (9, _), (23, _), (24, _), (25, _), (12, _)]) ⟨rfl, rfl, rfl, rfl, rfl, rfl, rfl, rfl, rfl, trivial⟩ ?_
            refine NX.drop (l' := hownT 100 3 Edge.enc v23 _ :: hcells b9 [_, _, _] 47 :: hownT 100 3 Edge.enc (.slice none 0 0) (([] : List Edge)) :: hownT 25 1 encI v25 _ :: hcells b5 [_, _, _] 47 :: hcells b3 [_] 3 :: hownT 100 3 Edge.enc (.slice none 0 0) (([] : List Edge)) :: hownT 25 1 encI (.slice none 0 0) (([] : List Int)) :: l) (.cons _ (.cons_cons _ (.cons_cons _ (.cons_cons _ (.cons_cons _ (.cons_cons _ (.cons_cons _ (.cons_cons _ (.cons_cons _ (.refl _)))))))))) ?_
            refine NX.sub (env' := [(3, _), (6, _), (7, _), (8, _), (9, _), (23, _), (24, _), (25, _), (12, _)]) ⟨rfl, rfl, rfl, rfl, rfl, rfl, rfl, rfl, rfl, trivial⟩ ?_
            exact hk90 _ _ ⟨_, _, _, _, rfl, rfl, hr⟩
          · have hr := cond_f hb hr
            refine Tr.seq ?_
            refine Tr.region_f (fun _ => false) ?_
            refine W.q rfl rfl rfl rfl (by decide) (Yd.fldB rfl Try.underlying64 rfl SZ3 rfl (.t rfl)) ?_
            refine W.q rfl rfl rfl rfl (by decide) (Yd.ldB (pos := 0) rfl rfl rfl ON3 (.t rfl)) ?_
            refine W.q rfl rfl rfl rfl (by decide) (Yd.eql rfl (.t rfl) .c) ?_
            refine W.end ?_
            refine NX.sub (env' := [(3, _), (6, _), (7, _), (8, _), (9, _), (23, _), (24, _), (25, _), (11, _), (12, _), (13, _), (14, _), (105, _)]) ⟨rfl, rfl, rfl, rfl, rfl, rfl, rfl, rfl, rfl, rfl, rfl, rfl, rfl, trivial⟩ ?_
            refine NX.then ?_
            refine Tr.cond (.t rfl) (fun hb => ?_) (fun hb => ?_)
            · have hr := cond_t hb hr
              refine Tr.seq ?_
              obtain ⟨r99, hr100, hr⟩ := bind_some hr
              obtain ⟨r101, hr102, hr⟩ := bind_some hr
              obtain ⟨ha103, hr⟩ := guard_some hr
              obtain ⟨ha104, hr⟩ := guard_some hr
              refine Tr.region_f (fun _ => false) ?_
              refine W.q rfl rfl rfl rfl (by decide) (Yd.mv rfl (.t rfl)) ?_
              refine W.q rfl rfl rfl rfl (by decide) (Yd.fldB rfl Try.underlying64 rfl SZ3 rfl (.t rfl)) ?_
              refine W.q rfl rfl rfl rfl (by decide) (Yd.ldB (pos := 0) rfl rfl rfl ON3 (.t rfl)) ?_
              refine W.q rfl rfl rfl rfl (by decide) (Yd.fldB rfl Try.underlying64 rfl SZ3 rfl (.t rfl)) ?_
              refine W.q rfl rfl rfl rfl (by decide) (Yd.ldB (pos := 0) rfl rfl rfl ON3 (.t rfl)) ?_
              refine W.q rfl rfl rfl rfl (by decide) (Yd.call (v := .int .u32 (r99.toNat : Int)) rfl Try.func31 rfl rfl (.cons (.t rfl) (.cons (.t rfl) (.cons (.t rfl) .nil))) (by intro x' hx w hw; obtain ⟨p0, hp0⟩ := hx.at (p := 1) rfl; obtain ⟨m2, hm2, hc2, ⟨L2, hl1, hl2⟩, hback⟩ := cX_lend hw hp0 lone_own; have hL1 : RS rEdge m2 _ _ := RS_of_own hl1 hl2; exact (syllogistref_Over_ok w0 m2 _ _ _ hL1 y81.by_ y81.to _ hr100 w hc2).mono fun e w' ⟨he, hc'⟩ => ⟨he, (hback m2 _ _ w' (.refl _) hp0).2 hc'⟩)) ?_
              refine W.q rfl rfl rfl rfl (by decide) (Yd.call (v := .bool r101) rfl Try.func19 rfl rfl (.cons .c (.cons (.t rfl) .nil)) (fun x' hx w hw => syllogistref_In_ok w0 x'.m x'.l (1#32) r99 _ hr102 w hw)) ?_
              refine W.q rfl rfl rfl rfl (by decide) (Yd.not rfl (.t rfl)) ?_
              refine W.q rfl rfl rfl rfl (by decide) (Yd.mv rfl (.t rfl)) ?_
              refine W.g rfl rfl rfl rfl rfl (.t rfl _) rfl (by decide) (fun hG => Yd.mv rfl (.t rfl)) ?_
              refine W.g rfl rfl rfl rfl rfl (.t rfl _) rfl (by decide) (fun hG => Yd.mv rfl (.t rfl)) ?_
              refine W.g rfl rfl rfl rfl rfl (.t rfl _) rfl (by decide) (fun hG => Yd.fldB rfl Try.underlying64 rfl SZ3 rfl (.t rfl)) ?_
              refine W.g rfl rfl rfl rfl rfl (.t rfl _) rfl (by decide) (fun hG => Yd.ldB (pos := 0) rfl rfl rfl ON3 (.g rfl hG)) ?_
              refine W.g rfl rfl rfl rfl rfl (.t rfl _) rfl (by decide) (fun hG => Yd.mv rfl (.t rfl)) ?_
              refine W.g rfl rfl rfl rfl rfl (.t rfl _) rfl (by decide) (fun hG => Yd.call (v := .int .u32 (((((syllogistref_Over l22 y81.to y81.label.level).getD (0#32)))).toNat : Int)) rfl Try.func31 rfl rfl (.cons (.g rfl hG) (.cons (.g rfl hG) (.cons (.g rfl hG) .nil))) (by intro x' hx w hw; obtain ⟨p0, hp0⟩ := hx.at (p := 1) rfl; obtain ⟨m2, hm2, hc2, ⟨L2, hl1, hl2⟩, hback⟩ := cX_lend hw hp0 lone_own; have hL1 : RS rEdge m2 _ _ := RS_of_own hl1 hl2; exact (syllogistref_Over_ok w0 m2 _ _ _ hL1 y81.to y81.label.level _ (gd_get (d := (0#32)) ha103 hG) w hc2).mono fun e w' ⟨he, hc'⟩ => ⟨he, (hback m2 _ _ w' (.refl _) hp0).2 hc'⟩)) ?_
              refine W.g rfl rfl rfl rfl rfl (.t rfl _) rfl (by decide) (fun hG => Yd.call (v := .bool ((((syllogistref_In y81.label.parts ((((syllogistref_Over l22 y81.to y81.label.level).getD (0#32))))).getD false)))) rfl Try.func19 rfl rfl (.cons (.g rfl hG) (.cons (.g rfl hG) .nil)) (fun x' hx w hw => syllogistref_In_ok w0 x'.m x'.l y81.label.parts ((((syllogistref_Over l22 y81.to y81.label.level).getD (0#32)))) _ (gd_get (d := false) ha104 hG) w hw)) ?_
              refine W.g rfl rfl rfl rfl rfl (.t rfl _) rfl (by decide) (fun hG => Yd.not rfl (.g rfl hG)) ?_
              refine W.q rfl rfl rfl rfl (by decide) (Yd.or rfl (.t rfl) .c rfl rfl) ?_
              refine W.end ?_
              refine NX.sub (env' := [(3, _), (6, _), (7, _), (8, _), (9, _), (23, _), (24, _), (25, _), (11, _), (12, _), (13, _), (14, _), (123, _)]) ⟨rfl, rfl, rfl, rfl, rfl, rfl, rfl, rfl, rfl, rfl, rfl, rfl, rfl, trivial⟩ ?_
              refine NX.then ?_
              refine Tr.cond (.t rfl) (fun hb => ?_) (fun hb => ?_)
              · have hr := cond_t hb hr
                refine Tr.region_f (fun _ => false) ?_
                refine W.q rfl rfl rfl rfl (by decide) (Yd.as rfl .c) ?_
                refine W.end ?_
                refine NX.sub (env' := [(3, _), (6, _), (7, _), (8, _), (9, _), (23, _), (24, _), (25, _), (12, _)]) ⟨rfl, rfl, rfl, rfl, rfl, rfl, rfl, rfl, rfl, trivial⟩ ?_
                refine NX.drop (l' := hownT 100 3 Edge.enc v23 _ :: hcells b9 [_, _, _] 47 :: hownT 100 3 Edge.enc (.slice none 0 0) (([] : List Edge)) :: hownT 25 1 encI v25 _ :: hcells b5 [_, _, _] 47 :: hcells b3 [_] 3 :: hownT 100 3 Edge.enc (.slice none 0 0) (([] : List Edge)) :: hownT 25 1 encI (.slice none 0 0) (([] : List Int)) :: l) (.cons _ (.cons_cons _ (.cons_cons _ (.cons_cons _ (.cons_cons _ (.cons_cons _ (.cons_cons _ (.cons_cons _ (.cons_cons _ (.refl _)))))))))) ?_
                refine NX.sub (env' := [(3, _), (6, _), (7, _), (8, _), (9, _), (23, _), (24, _), (25, _), (12, _)]) ⟨rfl, rfl, rfl, rfl, rfl, rfl, rfl, rfl, rfl, trivial⟩ ?_
                exact hk90 _ _ ⟨_, _, _, _, rfl, rfl, hr⟩
              · have hr := cond_f hb hr
                obtain ⟨hq108, hr⟩ := guard_some hr; replace hq108 := of_decide_eq_true hq108
                refine Tr.region_f (fun i => Nat.beq i 6 || Nat.beq i 7) ?_
                refine W.q rfl rfl rfl rfl (by decide) (Yd.mv rfl (.t rfl)) ?_
                refine W.q rfl rfl rfl rfl (by decide) (Yd.fldB rfl Try.underlying64 rfl SZ3 rfl (.t rfl)) ?_
                refine W.q rfl rfl rfl rfl (by decide) (Yd.ldB (pos := 0) rfl rfl rfl ON3 (.t rfl)) ?_
                refine W.q rfl rfl rfl rfl (by decide) (Yd.mv rfl (.t rfl)) ?_
                refine W.q rfl rfl rfl rfl (by decide) (Yd.mv rfl (.t rfl)) ?_
                refine W.q rfl rfl rfl rfl (by decide) (Yd.bld (cells := [.int .i64 y81.by_, .int .i64 y81.label.level, .int .u32 (y81.label.parts.toNat : Int)]) rfl ZI100 PL100 (.cons (.t rfl) (.cons (.t rfl) (.cons (.t rfl) .nil))) rfl) ?_
                refine W.e rfl rfl rfl rfl (by decide) (Ef.bsT (enc := Edge.enc) (vs := [_]) (ys := [({ src := y81.by_, to := y81.label.level, rights := y81.label.parts } : Edge)]) (fun _ => rfl) IF100 rfl Try.underlying43 (by decide) rfl (.cons (.t rfl) .nil) rfl rfl (by decide)) ?_
                rintro v105 _ rfl
                refine ⟨.inl rfl, ?_⟩
                refine W.cast (m' := m) (l' := hownT 100 3 Edge.enc v105 _ :: hcells b83 [_, _, _, _, _, _] 64 :: hownT 100 3 Edge.enc v23 _ :: hcells b9 [_, _, _] 47 :: hownT 100 3 Edge.enc (.slice none 0 0) (([] : List Edge)) :: hownT 25 1 encI v25 _ :: hcells b5 [_, _, _] 47 :: hcells b3 [_] 3 :: hownT 100 3 Edge.enc (.slice none 0 0) (([] : List Edge)) :: hownT 25 1 encI (.slice none 0 0) (([] : List Int)) :: l) rfl rfl ?_
                refine W.e rfl rfl rfl rfl (by decide) (Ef.apI (pos := 2) (enc := Edge.enc) (xs := l22) (ys := ([({ src := y81.by_, to := y81.label.level, rights := y81.label.parts } : Edge)] : List Edge)) (fun _ => rfl) IF100 rfl rfl Try.underlying43 rfl (by decide) (.t rfl) (.t rfl) (Src.own (pos := 0) rfl) (fun _ => rfl) (by omega) (by omega)) ?_
                rintro v107 _ rfl
                refine ⟨.inl rfl, ?_⟩
                refine W.cast (m' := m) (l' := hownT 100 3 Edge.enc v105 _ :: hcells b83 [_, _, _, _, _, _] 64 :: hownT 100 3 Edge.enc v107 _ :: hcells b9 [_, _, _] 47 :: hownT 100 3 Edge.enc (.slice none 0 0) (([] : List Edge)) :: hownT 25 1 encI v25 _ :: hcells b5 [_, _, _] 47 :: hcells b3 [_] 3 :: hownT 100 3 Edge.enc (.slice none 0 0) (([] : List Edge)) :: hownT 25 1 encI (.slice none 0 0) (([] : List Int)) :: l) rfl rfl ?_
                refine W.q rfl rfl rfl rfl (by decide) (Yd.as rfl (.t rfl)) ?_
                refine W.end ?_
                refine NX.sub (env' := [(3, _), (6, _), (7, _), (8, _), (9, _), (23, _), (24, _), (25, _), (12, _)]) ⟨rfl, rfl, rfl, rfl, rfl, rfl, rfl, rfl, rfl, trivial⟩ ?_
                refine NX.drop (l' := hownT 100 3 Edge.enc v107 _ :: hcells b9 [_, _, _] 47 :: hownT 100 3 Edge.enc (.slice none 0 0) (([] : List Edge)) :: hownT 25 1 encI v25 _ :: hcells b5 [_, _, _] 47 :: hcells b3 [_] 3 :: hownT 100 3 Edge.enc (.slice none 0 0) (([] : List Edge)) :: hownT 25 1 encI (.slice none 0 0) (([] : List Int)) :: l) (.cons _ (.cons _ (.cons_cons _ (.cons_cons _ (.cons_cons _ (.cons_cons _ (.cons_cons _ (.cons_cons _ (.cons_cons _ (.cons_cons _ (.refl _))))))))))) ?_
                refine NX.sub (env' := [(3, _), (6, _), (7, _), (8, _), (9, _), (23, _), (24, _), (25, _), (12, _)]) ⟨rfl, rfl, rfl, rfl, rfl, rfl, rfl, rfl, rfl, trivial⟩ ?_
                exact hk90 _ _ ⟨_, _, _, _, rfl, rfl, hr⟩
            · have hr := cond_f hb hr
              refine Tr.seq ?_
              refine Tr.region_f (fun _ => false) ?_
              refine W.q rfl rfl rfl rfl (by decide) (Yd.fldB rfl Try.underlying64 rfl SZ3 rfl (.t rfl)) ?_
              refine W.q rfl rfl rfl rfl (by decide) (Yd.ldB (pos := 0) rfl rfl rfl ON3 (.t rfl)) ?_
              refine W.q rfl rfl rfl rfl (by decide) (Yd.eql rfl (.t rfl) .c) ?_
              refine W.end ?_
              refine NX.sub (env' := [(3, _), (6, _), (7, _), (8, _), (9, _), (23, _), (24, _), (25, _), (11, _), (12, _), (13, _), (14, _), (134, _)]) ⟨rfl, rfl, rfl, rfl, rfl, rfl, rfl, rfl, rfl, rfl, rfl, rfl, rfl, trivial⟩ ?_
              refine NX.then ?_
              refine Tr.cond (.t rfl) (fun hb => ?_) (fun hb => ?_)
              · have hr := cond_t hb hr
                refine Tr.seq ?_
                obtain ⟨r109, hr110, hr⟩ := bind_some hr
                obtain ⟨r111, hr112, hr⟩ := bind_some hr
                obtain ⟨ha113, hr⟩ := guard_some hr
                obtain ⟨ha114, hr⟩ := guard_some hr
                refine Tr.region_f (fun _ => false) ?_
                refine W.q rfl rfl rfl rfl (by decide) (Yd.mv rfl (.t rfl)) ?_
                refine W.q rfl rfl rfl rfl (by decide) (Yd.fldB rfl Try.underlying64 rfl SZ3 rfl (.t rfl)) ?_
                refine W.q rfl rfl rfl rfl (by decide) (Yd.ldB (pos := 0) rfl rfl rfl ON3 (.t rfl)) ?_
                refine W.q rfl rfl rfl rfl (by decide) (Yd.fldB rfl Try.underlying64 rfl SZ3 rfl (.t rfl)) ?_
                refine W.q rfl rfl rfl rfl (by decide) (Yd.ldB (pos := 0) rfl rfl rfl ON3 (.t rfl)) ?_
                refine W.q rfl rfl rfl rfl (by decide) (Yd.call (v := .int .u32 (r109.toNat : Int)) rfl Try.func31 rfl rfl (.cons (.t rfl) (.cons (.t rfl) (.cons (.t rfl) .nil))) (by intro x' hx w hw; obtain ⟨p0, hp0⟩ := hx.at (p := 1) rfl; obtain ⟨m2, hm2, hc2, ⟨L2, hl1, hl2⟩, hback⟩ := cX_lend hw hp0 lone_own; have hL1 : RS rEdge m2 _ _ := RS_of_own hl1 hl2; exact (syllogistref_Over_ok w0 m2 _ _ _ hL1 y81.by_ y81.to _ hr110 w hc2).mono fun e w' ⟨he, hc'⟩ => ⟨he, (hback m2 _ _ w' (.refl _) hp0).2 hc'⟩)) ?_
                refine W.q rfl rfl rfl rfl (by decide) (Yd.call (v := .bool r111) rfl Try.func19 rfl rfl (.cons .c (.cons (.t rfl) .nil)) (fun x' hx w hw => syllogistref_In_ok w0 x'.m x'.l (2#32) r109 _ hr112 w hw)) ?_
                refine W.q rfl rfl rfl rfl (by decide) (Yd.not rfl (.t rfl)) ?_
                refine W.q rfl rfl rfl rfl (by decide) (Yd.mv rfl (.t rfl)) ?_
                refine W.g rfl rfl rfl rfl rfl (.t rfl _) rfl (by decide) (fun hG => Yd.mv rfl (.t rfl)) ?_
                refine W.g rfl rfl rfl rfl rfl (.t rfl _) rfl (by decide) (fun hG => Yd.mv rfl (.t rfl)) ?_
                refine W.g rfl rfl rfl rfl rfl (.t rfl _) rfl (by decide) (fun hG => Yd.fldB rfl Try.underlying64 rfl SZ3 rfl (.t rfl)) ?_
                refine W.g rfl rfl rfl rfl rfl (.t rfl _) rfl (by decide) (fun hG => Yd.ldB (pos := 0) rfl rfl rfl ON3 (.g rfl hG)) ?_
                refine W.g rfl rfl rfl rfl rfl (.t rfl _) rfl (by decide) (fun hG => Yd.mv rfl (.t rfl)) ?_
                refine W.g rfl rfl rfl rfl rfl (.t rfl _) rfl (by decide) (fun hG => Yd.call (v := .int .u32 (((((syllogistref_Over l22 y81.by_ y81.label.level).getD (0#32)))).toNat : Int)) rfl Try.func31 rfl rfl (.cons (.g rfl hG) (.cons (.g rfl hG) (.cons (.g rfl hG) .nil))) (by intro x' hx w hw; obtain ⟨p0, hp0⟩ := hx.at (p := 1) rfl; obtain ⟨m2, hm2, hc2, ⟨L2, hl1, hl2⟩, hback⟩ := cX_lend hw hp0 lone_own; have hL1 : RS rEdge m2 _ _ := RS_of_own hl1 hl2; exact (syllogistref_Over_ok w0 m2 _ _ _ hL1 y81.by_ y81.label.level _ (gd_get (d := (0#32)) ha113 hG) w hc2).mono fun e w' ⟨he, hc'⟩ => ⟨he, (hback m2 _ _ w' (.refl _) hp0).2 hc'⟩)) ?_
                refine W.g rfl rfl rfl rfl rfl (.t rfl _) rfl (by decide) (fun hG => Yd.call (v := .bool ((((syllogistref_In y81.label.parts ((((syllogistref_Over l22 y81.by_ y81.label.level).getD (0#32))))).getD false)))) rfl Try.func19 rfl rfl (.cons (.g rfl hG) (.cons (.g rfl hG) .nil)) (fun x' hx w hw => syllogistref_In_ok w0 x'.m x'.l y81.label.parts ((((syllogistref_Over l22 y81.by_ y81.label.level).getD (0#32)))) _ (gd_get (d := false) ha114 hG) w hw)) ?_
                refine W.g rfl rfl rfl rfl rfl (.t rfl _) rfl (by decide) (fun hG => Yd.not rfl (.g rfl hG)) ?_
                refine W.q rfl rfl rfl rfl (by decide) (Yd.or rfl (.t rfl) .c rfl rfl) ?_
                refine W.end ?_
                refine NX.sub (env' := [(3, _), (6, _), (7, _), (8, _), (9, _), (23, _), (24, _), (25, _), (11, _), (12, _), (13, _), (14, _), (152, _)]) ⟨rfl, rfl, rfl, rfl, rfl, rfl, rfl, rfl, rfl, rfl, rfl, rfl, rfl, trivial⟩ ?_
                refine NX.then ?_
                refine Tr.cond (.t rfl) (fun hb => ?_) (fun hb => ?_)
                · have hr := cond_t hb hr
                  refine Tr.region_f (fun _ => false) ?_
                  refine W.q rfl rfl rfl rfl (by decide) (Yd.as rfl .c) ?_
                  refine W.end ?_
                  refine NX.sub (env' := [(3, _), (6, _), (7, _), (8, _), (9, _), (23, _), (24, _), (25, _), (12, _)]) ⟨rfl, rfl, rfl, rfl, rfl, rfl, rfl, rfl, rfl, trivial⟩ ?_
                  refine NX.drop (l' := hownT 100 3 Edge.enc v23 _ :: hcells b9 [_, _, _] 47 :: hownT 100 3 Edge.enc (.slice none 0 0) (([] : List Edge)) :: hownT 25 1 encI v25 _ :: hcells b5 [_, _, _] 47 :: hcells b3 [_] 3 :: hownT 100 3 Edge.enc (.slice none 0 0) (([] : List Edge)) :: hownT 25 1 encI (.slice none 0 0) (([] : List Int)) :: l) (.cons _ (.cons_cons _ (.cons_cons _ (.cons_cons _ (.cons_cons _ (.cons_cons _ (.cons_cons _ (.cons_cons _ (.cons_cons _ (.refl _)))))))))) ?_
                  refine NX.sub (env' := [(3, _), (6, _), (7, _), (8, _), (9, _), (23, _), (24, _), (25, _), (12, _)]) ⟨rfl, rfl, rfl, rfl, rfl, rfl, rfl, rfl, rfl, trivial⟩ ?_
                  exact hk90 _ _ ⟨_, _, _, _, rfl, rfl, hr⟩
                · have hr := cond_f hb hr
                  obtain ⟨hq118, hr⟩ := guard_some hr; replace hq118 := of_decide_eq_true hq118
                  refine Tr.region_f (fun i => Nat.beq i 6 || Nat.beq i 7) ?_
                  refine W.q rfl rfl rfl rfl (by decide) (Yd.mv rfl (.t rfl)) ?_
                  refine W.q rfl rfl rfl rfl (by decide) (Yd.fldB rfl Try.underlying64 rfl SZ3 rfl (.t rfl)) ?_
                  refine W.q rfl rfl rfl rfl (by decide) (Yd.ldB (pos := 0) rfl rfl rfl ON3 (.t rfl)) ?_
                  refine W.q rfl rfl rfl rfl (by decide) (Yd.mv rfl (.t rfl)) ?_
                  refine W.q rfl rfl rfl rfl (by decide) (Yd.mv rfl (.t rfl)) ?_
                  refine W.q rfl rfl rfl rfl (by decide) (Yd.bld (cells := [.int .i64 y81.to, .int .i64 y81.label.level, .int .u32 (y81.label.parts.toNat : Int)]) rfl ZI100 PL100 (.cons (.t rfl) (.cons (.t rfl) (.cons (.t rfl) .nil))) rfl) ?_
                  refine W.e rfl rfl rfl rfl (by decide) (Ef.bsT (enc := Edge.enc) (vs := [_]) (ys := [({ src := y81.to, to := y81.label.level, rights := y81.label.parts } : Edge)]) (fun _ => rfl) IF100 rfl Try.underlying43 (by decide) rfl (.cons (.t rfl) .nil) rfl rfl (by decide)) ?_
                  rintro v115 _ rfl
                  refine ⟨.inl rfl, ?_⟩
                  refine W.cast (m' := m) (l' := hownT 100 3 Edge.enc v115 _ :: hcells b83 [_, _, _, _, _, _] 64 :: hownT 100 3 Edge.enc v23 _ :: hcells b9 [_, _, _] 47 :: hownT 100 3 Edge.enc (.slice none 0 0) (([] : List Edge)) :: hownT 25 1 encI v25 _ :: hcells b5 [_, _, _] 47 :: hcells b3 [_] 3 :: hownT 100 3 Edge.enc (.slice none 0 0) (([] : List Edge)) :: hownT 25 1 encI (.slice none 0 0) (([] : List Int)) :: l) rfl rfl ?_
                  refine W.e rfl rfl rfl rfl (by decide) (Ef.apI (pos := 2) (enc := Edge.enc) (xs := l22) (ys := ([({ src := y81.to, to := y81.label.level, rights := y81.label.parts } : Edge)] : List Edge)) (fun _ => rfl) IF100 rfl rfl Try.underlying43 rfl (by decide) (.t rfl) (.t rfl) (Src.own (pos := 0) rfl) (fun _ => rfl) (by omega) (by omega)) ?_
                  rintro v117 _ rfl
                  refine ⟨.inl rfl, ?_⟩
                  refine W.cast (m' := m) (l' := hownT 100 3 Edge.enc v115 _ :: hcells b83 [_, _, _, _, _, _] 64 :: hownT 100 3 Edge.enc v117 _ :: hcells b9 [_, _, _] 47 :: hownT 100 3 Edge.enc (.slice none 0 0) (([] : List Edge)) :: hownT 25 1 encI v25 _ :: hcells b5 [_, _, _] 47 :: hcells b3 [_] 3 :: hownT 100 3 Edge.enc (.slice none 0 0) (([] : List Edge)) :: hownT 25 1 encI (.slice none 0 0) (([] : List Int)) :: l) rfl rfl ?_
                  refine W.q rfl rfl rfl rfl (by decide) (Yd.as rfl (.t rfl)) ?_
                  refine W.end ?_
                  refine NX.sub (env' := [(3, _), (6, _), (7, _), (8, _), (9, _), (23, _), (24, _), (25, _), (12, _)]) ⟨rfl, rfl, rfl, rfl, rfl, rfl, rfl, rfl, rfl, trivial⟩ ?_
                  refine NX.drop (l' := hownT 100 3 Edge.enc v117 _ :: hcells b9 [_, _, _] 47 :: hownT 100 3 Edge.enc (.slice none 0 0) (([] : List Edge)) :: hownT 25 1 encI v25 _ :: hcells b5 [_, _, _] 47 :: hcells b3 [_] 3 :: hownT 100 3 Edge.enc (.slice none 0 0) (([] : List Edge)) :: hownT 25 1 encI (.slice none 0 0) (([] : List Int)) :: l) (.cons _ (.cons _ (.cons_cons _ (.cons_cons _ (.cons_cons _ (.cons_cons _ (.cons_cons _ (.cons_cons _ (.cons_cons _ (.cons_cons _ (.refl _))))))))))) ?_
                  refine NX.sub (env' := [(3, _), (6, _), (7, _), (8, _), (9, _), (23, _), (24, _), (25, _), (12, _)]) ⟨rfl, rfl, rfl, rfl, rfl, rfl, rfl, rfl, rfl, trivial⟩ ?_
                  exact hk90 _ _ ⟨_, _, _, _, rfl, rfl, hr⟩
              · have hr := cond_f hb hr
                refine Tr.seq ?_
                refine Tr.region_f (fun _ => false) ?_
                refine W.q rfl rfl rfl rfl (by decide) (Yd.fldB rfl Try.underlying64 rfl SZ3 rfl (.t rfl)) ?_
                refine W.q rfl rfl rfl rfl (by decide) (Yd.ldB (pos := 0) rfl rfl rfl ON3 (.t rfl)) ?_
                refine W.q rfl rfl rfl rfl (by decide) (Yd.eql rfl (.t rfl) .c) ?_
                refine W.end ?_
                refine NX.sub (env' := [(3, _), (6, _), (7, _), (8, _), (9, _), (23, _), (24, _), (25, _), (11, _), (12, _), (14, _), (163, _)]) ⟨rfl, rfl, rfl, rfl, rfl, rfl, rfl, rfl, rfl, rfl, rfl, rfl, trivial⟩ ?_
                refine NX.then ?_
                refine Tr.cond (.t rfl) (fun hb => ?_) (fun hb => ?_)
                · have hr := cond_t hb hr
                  refine Tr.seq ?_
                  refine Tr.region_f (fun _ => false) ?_
                  refine W.q rfl rfl rfl rfl (by decide) (Yd.ldB (pos := 6) rfl rfl rfl ON3 (.t rfl)) ?_
                  refine W.q rfl rfl rfl rfl (by decide) (Yd.geq rfl (.t rfl) .c) ?_
                  refine W.end ?_
                  refine NX.sub (env' := [(3, _), (6, _), (7, _), (8, _), (9, _), (23, _), (24, _), (25, _), (11, _), (12, _), (165, _)]) ⟨rfl, rfl, rfl, rfl, rfl, rfl, rfl, rfl, rfl, rfl, rfl, trivial⟩ ?_
                  refine NX.then ?_
                  refine Tr.cond (.t rfl) (fun hb => ?_) (fun hb => ?_)
                  · have hr := cond_t hb hr
                    refine Tr.region_f (fun _ => false) ?_
                    refine W.q rfl rfl rfl rfl (by decide) (Yd.as rfl .c) ?_
                    refine W.end ?_
                    refine NX.sub (env' := [(3, _), (6, _), (7, _), (8, _), (9, _), (23, _), (24, _), (25, _), (12, _)]) ⟨rfl, rfl, rfl, rfl, rfl, rfl, rfl, rfl, rfl, trivial⟩ ?_
                    refine NX.drop (l' := hownT 100 3 Edge.enc v23 _ :: hcells b9 [_, _, _] 47 :: hownT 100 3 Edge.enc (.slice none 0 0) (([] : List Edge)) :: hownT 25 1 encI v25 _ :: hcells b5 [_, _, _] 47 :: hcells b3 [_] 3 :: hownT 100 3 Edge.enc (.slice none 0 0) (([] : List Edge)) :: hownT 25 1 encI (.slice none 0 0) (([] : List Int)) :: l) (.cons _ (.cons_cons _ (.cons_cons _ (.cons_cons _ (.cons_cons _ (.cons_cons _ (.cons_cons _ (.cons_cons _ (.cons_cons _ (.refl _)))))))))) ?_
                    refine NX.sub (env' := [(3, _), (6, _), (7, _), (8, _), (9, _), (23, _), (24, _), (25, _), (12, _)]) ⟨rfl, rfl, rfl, rfl, rfl, rfl, rfl, rfl, rfl, trivial⟩ ?_
                    exact hk90 _ _ ⟨_, _, _, _, rfl, rfl, hr⟩
                  · have hr := cond_f hb hr
                    refine Tr.seq ?_
                    obtain ⟨hq122, hr⟩ := guard_some hr; replace hq122 := of_decide_eq_true hq122
                    refine Tr.region_f (fun i => Nat.beq i 5 || Nat.beq i 6) ?_
                    refine W.q rfl rfl rfl rfl (by decide) (Yd.mv rfl (.t rfl)) ?_
                    refine W.q rfl rfl rfl rfl (by decide) (Yd.fldB rfl Try.underlying64 rfl SZ3 rfl (.t rfl)) ?_
                    refine W.q rfl rfl rfl rfl (by decide) (Yd.ldB (pos := 0) rfl rfl rfl ON3 (.t rfl)) ?_
                    refine W.q rfl rfl rfl rfl (by decide) (Yd.ldB (pos := 6) rfl rfl rfl ON3 (.t rfl)) ?_
                    refine W.q rfl rfl rfl rfl (by decide) (Yd.bld (cells := [.int .i64 y81.by_, .int .i64 c26, .int .u32 ((3#32).toNat : Int)]) rfl ZI100 PL100 (.cons (.t rfl) (.cons (.t rfl) (.cons .c .nil))) rfl) ?_
                    refine W.e rfl rfl rfl rfl (by decide) (Ef.bsT (enc := Edge.enc) (vs := [_]) (ys := [({ src := y81.by_, to := c26, rights := 3#32 } : Edge)]) (fun _ => rfl) IF100 rfl Try.underlying43 (by decide) rfl (.cons (.t rfl) .nil) rfl rfl (by decide)) ?_
                    rintro v119 _ rfl
                    refine ⟨.inl rfl, ?_⟩
                    refine W.cast (m' := m) (l' := hownT 100 3 Edge.enc v119 _ :: hcells b83 [_, _, _, _, _, _] 64 :: hownT 100 3 Edge.enc v23 _ :: hcells b9 [_, _, _] 47 :: hownT 100 3 Edge.enc (.slice none 0 0) (([] : List Edge)) :: hownT 25 1 encI v25 _ :: hcells b5 [_, _, _] 47 :: hcells b3 [_] 3 :: hownT 100 3 Edge.enc (.slice none 0 0) (([] : List Edge)) :: hownT 25 1 encI (.slice none 0 0) (([] : List Int)) :: l) rfl rfl ?_
                    refine W.e rfl rfl rfl rfl (by decide) (Ef.apI (pos := 2) (enc := Edge.enc) (xs := l22) (ys := ([({ src := y81.by_, to := c26, rights := 3#32 } : Edge)] : List Edge)) (fun _ => rfl) IF100 rfl rfl Try.underlying43 rfl (by decide) (.t rfl) (.t rfl) (Src.own (pos := 0) rfl) (fun _ => rfl) (by omega) (by omega)) ?_
                    rintro v121 _ rfl
                    refine ⟨.inl rfl, ?_⟩
                    refine W.cast (m' := m) (l' := hownT 100 3 Edge.enc v119 _ :: hcells b83 [_, _, _, _, _, _] 64 :: hownT 100 3 Edge.enc v121 _ :: hcells b9 [_, _, _] 47 :: hownT 100 3 Edge.enc (.slice none 0 0) (([] : List Edge)) :: hownT 25 1 encI v25 _ :: hcells b5 [_, _, _] 47 :: hcells b3 [_] 3 :: hownT 100 3 Edge.enc (.slice none 0 0) (([] : List Edge)) :: hownT 25 1 encI (.slice none 0 0) (([] : List Int)) :: l) rfl rfl ?_
                    refine W.q rfl rfl rfl rfl (by decide) (Yd.as rfl (.t rfl)) ?_
                    refine W.end ?_
                    refine NX.sub (env' := [(3, _), (6, _), (7, _), (8, _), (9, _), (23, _), (24, _), (25, _), (12, _)]) ⟨rfl, rfl, rfl, rfl, rfl, rfl, rfl, rfl, rfl, trivial⟩ ?_
                    refine NX.drop (l' := hownT 100 3 Edge.enc v121 _ :: hcells b9 [_, _, _] 47 :: hownT 100 3 Edge.enc (.slice none 0 0) (([] : List Edge)) :: hownT 25 1 encI v25 _ :: hcells b5 [_, _, _] 47 :: hcells b3 [_] 3 :: hownT 100 3 Edge.enc (.slice none 0 0) (([] : List Edge)) :: hownT 25 1 encI (.slice none 0 0) (([] : List Int)) :: l) (.cons _ (.cons _ (.cons_cons _ (.cons_cons _ (.cons_cons _ (.cons_cons _ (.cons_cons _ (.cons_cons _ (.cons_cons _ (.cons_cons _ (.refl _))))))))))) ?_
                    refine NX.then ?_
                    refine Tr.region_f (fun i => Nat.beq i 2) ?_
                    refine W.q rfl rfl rfl rfl (by decide) (Yd.ldB (pos := 5) rfl rfl rfl ON3 (.t rfl)) ?_
                    refine W.q rfl rfl rfl rfl (by decide) (Yd.add rfl (.t rfl) .c) ?_
                    refine W.s rfl rfl rfl rfl (Ef.stB (pos := 5) (us := [_]) (cs' := [_]) rfl rfl (.t rfl) (.t rfl) SZ3 rfl rfl rfl (Nat.le_of_ble_eq_true rfl) rfl) ?_
                    rintro _ _ ⟨rfl, rfl⟩
                    refine ⟨.inl rfl, ?_⟩
                    refine W.cast (m' := m) (l' := hownT 100 3 Edge.enc v121 _ :: hcells b9 [_, _, _] 47 :: hownT 100 3 Edge.enc (.slice none 0 0) (([] : List Edge)) :: hownT 25 1 encI v25 _ :: hcells b5 [_, _, _] 47 :: hcells b3 [_] 3 :: hownT 100 3 Edge.enc (.slice none 0 0) (([] : List Edge)) :: hownT 25 1 encI (.slice none 0 0) (([] : List Int)) :: l) rfl rfl ?_
                    refine W.end ?_
                    refine NX.sub (env' := [(3, _), (6, _), (7, _), (8, _), (9, _), (23, _), (24, _), (25, _), (12, _)]) ⟨rfl, rfl, rfl, rfl, rfl, rfl, rfl, rfl, rfl, trivial⟩ ?_
                    refine NX.sub (env' := [(3, _), (6, _), (7, _), (8, _), (9, _), (23, _), (24, _), (25, _), (12, _)]) ⟨rfl, rfl, rfl, rfl, rfl, rfl, rfl, rfl, rfl, trivial⟩ ?_
                    exact hk90 _ _ ⟨_, _, _, _, rfl, rfl, hr⟩
                · have hr := cond_f hb hr
                  refine Tr.seq ?_
                  refine Tr.region_f (fun _ => false) ?_
                  refine W.q rfl rfl rfl rfl (by decide) (Yd.as rfl .c) ?_
                  refine W.end ?_
                  refine NX.sub (env' := [(3, _), (6, _), (7, _), (8, _), (9, _), (23, _), (24, _), (25, _), (11, _), (12, _), (14, _), (15, _)]) ⟨rfl, rfl, rfl, rfl, rfl, rfl, rfl, rfl, rfl, rfl, rfl, rfl, trivial⟩ ?_
                  refine NX.then ?_
                  refine Tr.join (S := fun env x => ∃ l129 : List Edge, ∃ v130 : Value, env = [(3, bp b3 0), (6, bp b5 0), (7, bp b9 0), (8, v130), (9, .func (.func 48) #[] #[bp b3 0]), (23, uscript_2), (24, .int .i64 ((script_2.length : Int))), (25, .int .i64 t_77), (12, .int .i64 ((0 : Int)))] ∧ x = ⟨m, hownT 100 3 Edge.enc v130 l129 :: hcells b9 [v25, .int .i64 ((0 : Int)), (.slice none 0 0)] 47 :: hownT 100 3 Edge.enc (.slice none 0 0) (([] : List Edge)) :: hownT 25 1 encI v25 l24 :: hcells b5 [(.slice none 0 0), .int .i64 ((0 : Int)), (.slice none 0 0)] 47 :: hcells b3 [.int .i64 c26] 3 :: hownT 100 3 Edge.enc (.slice none 0 0) (([] : List Edge)) :: hownT 25 1 encI (.slice none 0 0) (([] : List Int)) :: l⟩ ∧ syllogistref_Grant_k131 l24 c26 nx79 l129 = some r) ?_ (fun hk132 => ?_)
                  · rintro _ _ ⟨l129, v130, rfl, rfl, hr⟩
                    unfold syllogistref_Grant_k131 at hr
                    try dsimp only at hr
                    refine NX.sub (env' := [(3, _), (6, _), (7, _), (8, _), (9, _), (23, _), (24, _), (25, _), (12, _)]) ⟨rfl, rfl, rfl, rfl, rfl, rfl, rfl, rfl, rfl, trivial⟩ ?_
                    exact hk90 _ _ ⟨_, _, _, _, rfl, rfl, hr⟩
                  refine Tr.block ?_
                  refine Tr.sub (env' := [(3, _), (6, _), (7, _), (8, _), (9, _), (11, _), (12, _), (14, _), (15, _), (23, _), (24, _), (25, _)]) ⟨rfl, rfl, rfl, rfl, rfl, rfl, rfl, rfl, rfl, rfl, rfl, rfl, trivial⟩ ?_
                  refine Tr.loop (S := fun n (z : Int × (List Edge)) env x => match z with | (i_126, l127) => ∃ v128 : Value, env = [(3, bp b3 0), (6, bp b5 0), (7, bp b9 0), (8, v128), (9, .func (.func 48) #[] #[bp b3 0]), (11, bp b83 0), (12, .int .i64 ((0 : Int))), (14, .int .u32 (y81.label.parts.toNat : Int)), (15, .int .i64 i_126), (23, uscript_2), (24, .int .i64 ((script_2.length : Int))), (25, .int .i64 t_77)] ∧ x = ⟨m, hcells b83 [.int .i64 y81.kind, .int .i64 y81.by_, .int .i64 y81.to, .int .i64 y81.label.level, .int .u32 (y81.label.parts.toNat : Int), .int .i64 y81.val] 64 :: hownT 100 3 Edge.enc v128 l127 :: hcells b9 [v25, .int .i64 ((0 : Int)), (.slice none 0 0)] 47 :: hownT 100 3 Edge.enc (.slice none 0 0) (([] : List Edge)) :: hownT 25 1 encI v25 l24 :: hcells b5 [(.slice none 0 0), .int .i64 ((0 : Int)), (.slice none 0 0)] 47 :: hcells b3 [.int .i64 c26] 3 :: hownT 100 3 Edge.enc (.slice none 0 0) (([] : List Edge)) :: hownT 25 1 encI (.slice none 0 0) (([] : List Int)) :: l⟩ ∧ whileK (σ := Int × (List Edge)) (fun s nx_ => syllogistref_Grant_b133 l24 c26 nx79 y81 s.1 s.2 nx_) n (i_126, l127) = some r) _ ((0 : Int), l22) ⟨_, rfl, rfl, hr⟩ ?_
                  rintro n135 ⟨i_126, l127⟩ env x ⟨v128, rfl, rfl, hr⟩
                  cases n135 with
                  | zero => simp [whileK] at hr
                  | succ n135 =>
                    obtain ⟨nx134, hnx134, hr⟩ := whileK_succ hr
                    try dsimp only at hr
                    unfold syllogistref_Grant_b133 at hr
                    try dsimp only at hr
                    refine Tr.seq ?_
                    refine Tr.seq ?_
                    refine Tr.region_f (fun _ => false) ?_
                    refine W.q rfl rfl rfl rfl (by decide) (Yd.mv rfl (.t rfl)) ?_
                    refine W.q rfl rfl rfl rfl (by decide) (Yd.mv rfl (.t rfl)) ?_
                    refine W.q rfl rfl rfl rfl (by decide) (Yd.lenO (p := 1) rfl rfl Try.underlying43 (.t rfl)) ?_
                    refine W.q rfl rfl rfl rfl (by decide) (Yd.lss rfl (.t rfl) (.t rfl)) ?_
                    refine W.end ?_
                    refine NX.sub (env' := [(3, _), (6, _), (7, _), (8, _), (9, _), (11, _), (12, _), (14, _), (15, _), (23, _), (24, _), (25, _), (178, _)]) ⟨rfl, rfl, rfl, rfl, rfl, rfl, rfl, rfl, rfl, rfl, rfl, rfl, rfl, trivial⟩ ?_
                    refine NX.then ?_
                    refine Tr.cond (.t rfl) (fun hb => ?_) (fun hb => ?_)
                    · have hr := cond_t hb hr
                      refine Tr.skip' ?_
                      refine NX.then ?_
                      refine Tr.seq ?_
                      refine Tr.block ?_
                      refine Tr.seq ?_
                      obtain ⟨y136, hy137, hr⟩ := bind_some hr
                      refine Tr.region_x (fun _ => false) (fun _ => false) (Ord.of [0, 1, 2, 3, 4, 5, 6, 7, 8, 9, 10, 11, 12, 13, 14, 15, 16, 17]) FM (by kernel_rfl) ?_
                      refine W.q rfl rfl rfl rfl (by decide) (Yd.mv rfl (.t rfl)) ?_
                      refine W.q rfl rfl rfl rfl (by decide) (Yd.mv rfl (.t rfl)) ?_
                      refine W.q rfl rfl rfl rfl (by decide) (Yd.idxT (pos := 1) rfl hy137 rfl Try.underlying43 SZ100 (.t rfl) (.t rfl)) ?_
                      refine W.q rfl rfl rfl rfl (by decide) (Yd.fldT (pos := 1) rfl hy137 rfl Try.underlying100 rfl SZ3 rfl (.t rfl)) ?_
                      refine W.q rfl rfl rfl rfl (by decide) (Yd.ldTf (enc := Edge.enc) (n := 3) (pos := 1) (fun _ => rfl) rfl hy137 rfl rfl ON3 (.t rfl)) ?_
                      refine W.q rfl rfl rfl rfl (by decide) (Yd.fldB rfl Try.underlying64 rfl SZ3 rfl (.t rfl)) ?_
                      refine W.q rfl rfl rfl rfl (by decide) (Yd.ldB (pos := 0) rfl rfl rfl ON3 (.t rfl)) ?_
                      refine W.q rfl rfl rfl rfl (by decide) (Yd.eql rfl (.t rfl) (.t rfl)) ?_
                      refine W.q rfl rfl rfl rfl (by decide) (Yd.mv rfl (.t rfl)) ?_
                      refine W.g rfl rfl rfl rfl rfl (.t rfl _) rfl (by decide) (fun hG => Yd.mv rfl (.t rfl)) ?_
                      refine W.g rfl rfl rfl rfl rfl (.t rfl _) rfl (by decide) (fun hG => Yd.mv rfl (.t rfl)) ?_
                      refine W.g rfl rfl rfl rfl rfl (.t rfl _) rfl (by decide) (fun hG => Yd.idxT (pos := 1) rfl hy137 rfl Try.underlying43 SZ100 (.g rfl hG) (.g rfl hG)) ?_
                      refine W.g rfl rfl rfl rfl rfl (.t rfl _) rfl (by decide) (fun hG => Yd.fldT (pos := 1) rfl hy137 rfl Try.underlying100 rfl SZ3 rfl (.g rfl hG)) ?_
                      refine W.g rfl rfl rfl rfl rfl (.t rfl _) rfl (by decide) (fun hG => Yd.ldTf (enc := Edge.enc) (n := 3) (pos := 1) (fun _ => rfl) rfl hy137 rfl rfl ON3 (.g rfl hG)) ?_
                      refine W.g rfl rfl rfl rfl rfl (.t rfl _) rfl (by decide) (fun hG => Yd.fldB rfl Try.underlying64 rfl SZ3 rfl (.t rfl)) ?_
                      refine W.g rfl rfl rfl rfl rfl (.t rfl _) rfl (by decide) (fun hG => Yd.ldB (pos := 0) rfl rfl rfl ON3 (.g rfl hG)) ?_
                      refine W.g rfl rfl rfl rfl rfl (.t rfl _) rfl (by decide) (fun hG => Yd.eql rfl (.g rfl hG) (.g rfl hG)) ?_
                      refine W.q rfl rfl rfl rfl (by decide) (Yd.and rfl (.t rfl) .c rfl rfl) ?_
                      refine W.end ?_
                      refine NX.sub (env' := [(3, _), (6, _), (7, _), (8, _), (9, _), (11, _), (12, _), (14, _), (15, _), (23, _), (24, _), (25, _), (198, _)]) ⟨rfl, rfl, rfl, rfl, rfl, rfl, rfl, rfl, rfl, rfl, rfl, rfl, rfl, trivial⟩ ?_
                      refine NX.then ?_
                      refine Tr.cond (.t rfl) (fun hb => ?_) (fun hb => ?_)
                      · have hr := cond_t hb hr
                        obtain ⟨y138, hy139, hr⟩ := bind_some hr
                        refine Tr.region_f (fun i => Nat.beq i 11) ?_
                        refine W.q rfl rfl rfl rfl (by decide) (Yd.mv rfl (.t rfl)) ?_
                        refine W.q rfl rfl rfl rfl (by decide) (Yd.mv rfl (.t rfl)) ?_
                        refine W.q rfl rfl rfl rfl (by decide) (Yd.mv rfl (.t rfl)) ?_
                        refine W.q rfl rfl rfl rfl (by decide) (Yd.mv rfl (.t rfl)) ?_
                        refine W.q rfl rfl rfl rfl (by decide) (Yd.idxT (pos := 1) rfl hy139 rfl Try.underlying43 SZ100 (.t rfl) (.t rfl)) ?_
                        refine W.q rfl rfl rfl rfl (by decide) (Yd.fldT (pos := 1) rfl hy139 rfl Try.underlying100 rfl SZ33 rfl (.t rfl)) ?_
                        refine W.q rfl rfl rfl rfl (by decide) (Yd.ldTf (enc := Edge.enc) (n := 3) (pos := 1) (fun _ => rfl) rfl hy139 rfl rfl ON33 (.t rfl)) ?_
                        refine W.q rfl rfl rfl rfl (by decide) (Yd.mv rfl (.t rfl)) ?_
                        refine W.q rfl rfl rfl rfl (by decide) (Yd.andnU (a := y138.rights) (b := y81.label.parts) rfl (.t rfl) (.t rfl)) ?_
                        refine W.q rfl rfl rfl rfl (by decide) (Yd.idxT (pos := 1) rfl hy139 rfl Try.underlying43 SZ100 (.t rfl) (.t rfl)) ?_
                        refine W.q rfl rfl rfl rfl (by decide) (Yd.fldT (pos := 1) rfl hy139 rfl Try.underlying100 rfl SZ33 rfl (.t rfl)) ?_
                        refine W.s rfl rfl rfl rfl (Ef.stTf (enc := Edge.enc) (n := 3) (pos := 1) (y := ({ src := y138.src, to := y138.to, rights := (y138.rights &&& ~~~y81.label.parts) } : Edge)) (us := [_]) (fun _ => rfl) rfl hy139 rfl (.t rfl) (.t rfl) SZ33 rfl rfl rfl rfl (by decide) (Nat.le_of_ble_eq_true rfl)) ?_
                        rintro _ _ ⟨rfl, rfl⟩
                        refine ⟨.inl rfl, ?_⟩
                        refine W.cast (m' := m) (l' := hcells b83 [_, _, _, _, _, _] 64 :: hownT 100 3 Edge.enc v128 _ :: hcells b9 [_, _, _] 47 :: hownT 100 3 Edge.enc (.slice none 0 0) (([] : List Edge)) :: hownT 25 1 encI v25 _ :: hcells b5 [_, _, _] 47 :: hcells b3 [_] 3 :: hownT 100 3 Edge.enc (.slice none 0 0) (([] : List Edge)) :: hownT 25 1 encI (.slice none 0 0) (([] : List Int)) :: l) rfl rfl ?_
                        refine W.end ?_
                        refine NX.sub (env' := [(3, _), (6, _), (7, _), (8, _), (9, _), (11, _), (12, _), (14, _), (15, _), (23, _), (24, _), (25, _)]) ⟨rfl, rfl, rfl, rfl, rfl, rfl, rfl, rfl, rfl, rfl, rfl, rfl, trivial⟩ ?_
                        refine NX.block ?_
                        refine NX.then ?_
                        refine Tr.region_f (fun _ => false) ?_
                        refine W.q rfl rfl rfl rfl (by decide) (Yd.mv rfl (.t rfl)) ?_
                        refine W.q rfl rfl rfl rfl (by decide) (Yd.add rfl (.t rfl) .c) ?_
                        refine W.q rfl rfl rfl rfl (by decide) (Yd.as rfl (.t rfl)) ?_
                        refine W.end ?_
                        refine NX.sub (env' := [(3, _), (6, _), (7, _), (8, _), (9, _), (11, _), (12, _), (14, _), (15, _), (23, _), (24, _), (25, _)]) ⟨rfl, rfl, rfl, rfl, rfl, rfl, rfl, rfl, rfl, rfl, rfl, rfl, trivial⟩ ?_
                        refine NX.sub (env' := [(3, _), (6, _), (7, _), (8, _), (9, _), (11, _), (12, _), (14, _), (15, _), (23, _), (24, _), (25, _)]) ⟨rfl, rfl, rfl, rfl, rfl, rfl, rfl, rfl, rfl, rfl, rfl, rfl, trivial⟩ ?_
                        exact NX.again n135 ((w64 (i_126 + (1 : Int))), (l127.set i_126.toNat (({ src := y138.src, to := y138.to, rights := (y138.rights &&& ~~~y81.label.parts) } : Edge)))) (Nat.lt_succ_self _) ⟨_, rfl, rfl, ((hnx134 _).symm.trans hr)⟩
                      · have hr := cond_f hb hr
                        refine Tr.skip' ?_
                        refine NX.block ?_
                        refine NX.then ?_
                        refine Tr.region_f (fun _ => false) ?_
                        refine W.q rfl rfl rfl rfl (by decide) (Yd.mv rfl (.t rfl)) ?_
                        refine W.q rfl rfl rfl rfl (by decide) (Yd.add rfl (.t rfl) .c) ?_
                        refine W.q rfl rfl rfl rfl (by decide) (Yd.as rfl (.t rfl)) ?_
                        refine W.end ?_
                        refine NX.sub (env' := [(3, _), (6, _), (7, _), (8, _), (9, _), (11, _), (12, _), (14, _), (15, _), (23, _), (24, _), (25, _)]) ⟨rfl, rfl, rfl, rfl, rfl, rfl, rfl, rfl, rfl, rfl, rfl, rfl, trivial⟩ ?_
                        refine NX.sub (env' := [(3, _), (6, _), (7, _), (8, _), (9, _), (11, _), (12, _), (14, _), (15, _), (23, _), (24, _), (25, _)]) ⟨rfl, rfl, rfl, rfl, rfl, rfl, rfl, rfl, rfl, rfl, rfl, rfl, trivial⟩ ?_
                        exact NX.again n135 ((w64 (i_126 + (1 : Int))), l127) (Nat.lt_succ_self _) ⟨_, rfl, rfl, ((hnx134 _).symm.trans hr)⟩
                    · have hr := cond_f hb hr
                      refine Tr.exit' (EX.then (EX.then (EX.block ?_)))
                      refine NX.sub (env' := [(3, _), (6, _), (7, _), (8, _), (9, _), (23, _), (24, _), (25, _), (12, _)]) ⟨rfl, rfl, rfl, rfl, rfl, rfl, rfl, rfl, rfl, trivial⟩ ?_
                      refine NX.drop (l' := hownT 100 3 Edge.enc v128 _ :: hcells b9 [_, _, _] 47 :: hownT 100 3 Edge.enc (.slice none 0 0) (([] : List Edge)) :: hownT 25 1 encI v25 _ :: hcells b5 [_, _, _] 47 :: hcells b3 [_] 3 :: hownT 100 3 Edge.enc (.slice none 0 0) (([] : List Edge)) :: hownT 25 1 encI (.slice none 0 0) (([] : List Int)) :: l) (.cons _ (.cons_cons _ (.cons_cons _ (.cons_cons _ (.cons_cons _ (.cons_cons _ (.cons_cons _ (.cons_cons _ (.cons_cons _ (.refl _)))))))))) ?_
                      exact hk132 _ _ ⟨_, _, rfl, rfl, hr⟩

def syllogistlaw_GrantWays_k13 (n_0 : Int) (edges_1 : List Edge) (a_2 : Int) (b_3 : Int) (right_4 : (BitVec 32)) (fuel : Nat) (r1 : (List Deed) × Int) : Option (Bool) :=
  (syllogistref_Over edges_1 a_2 b_3).bind fun r15 =>
  (syllogistref_In right_4 r15).bind fun r17 =>
  (bif r17 then
  some (((r1.2 == (0 : Int)) && ((r1.1.length : Int) == (0 : Int))))
  else
  (syllogistref_Grant fuel n_0 edges_1 r1.1).bind fun r23 =>
  bif (!((r1.2 == (0 : Int)) == true) || (syllogistref_Over r23.edges a_2 b_3).isSome) then
  bif (!((r1.2 == (0 : Int)) == true) || (syllogistref_In right_4 ((((syllogistref_Over r23.edges a_2 b_3).getD (0#32))))).isSome) then
  some (((r1.2 == (0 : Int)) && (((syllogistref_In right_4 ((((syllogistref_Over r23.edges a_2 b_3).getD (0#32))))).getD false)))) else none else none)

def syllogistlaw_GrantWays_b36 (r1 : (List Deed) × Int) (t_35 : Int) (nx37 : Unit → Option (Bool)) : Option (Bool) :=
  (geti r1.1 t_35).bind fun y39 =>
  (bif (y39.kind == (4 : Int)) then
  some false
  else
  nx37 ())

def syllogistlaw_GrantWays_k9 (n_0 : Int) (edges_1 : List Edge) (a_2 : Int) (b_3 : Int) (right_4 : (BitVec 32)) (fuel : Nat) (r1 : (List Deed) × Int) (x_8 : Int) : Option (Bool) :=
  (bif (x_8 != (0 : Int)) then
  some (((r1.2 == x_8) && ((r1.1.length : Int) == (0 : Int))))
  else
  forK (σ := Unit) (fun i s nx_ => syllogistlaw_GrantWays_b36 r1 i nx_) (fun _ => syllogistlaw_GrantWays_k13 n_0 edges_1 a_2 b_3 right_4 fuel r1) ((r1.1.length : Int) - (0 : Int)).toNat (0 : Int) ())

def syllogistlaw_GrantWays (fuel : Nat) (n_0 : Int) (edges_1 : List Edge) (a_2 : Int) (b_3 : Int) (right_4 : (BitVec 32)) : Option (Bool) :=
  (grant_Way fuel n_0 edges_1 a_2 b_3 right_4).bind fun r1 =>
  (syllogistlaw_grantCode n_0 edges_1 a_2 b_3 right_4).bind fun r5 =>
  bif (!((r5 == (0 : Int)) == true) || (syllogistref_Can fuel edges_1 a_2 b_3 right_4).isSome) then
  (bif ((r5 == (0 : Int)) && (!(((syllogistref_Can fuel edges_1 a_2 b_3 right_4).getD false)))) then
  syllogistlaw_GrantWays_k9 n_0 edges_1 a_2 b_3 right_4 fuel r1 ((5 : Int))
  else
  syllogistlaw_GrantWays_k9 n_0 edges_1 a_2 b_3 right_4 fuel r1 r5) else none

set_option maxRecDepth 100000 in
set_option maxHeartbeats 4000000 in
theorem syllogistlaw_GrantWays_ok (w0 : World) (m : Snap) (l : List HI) (fuel : Nat) (n_0 : Int) (uedges_1 : Value) (edges_1 : List Edge) (hedges_1 : RS rEdge m uedges_1 edges_1) (a_2 : Int) (b_3 : Int) (right_4 : (BitVec 32)) (r : Bool) (hr : syllogistlaw_GrantWays fuel n_0 edges_1 a_2 b_3 right_4 = some r) (w : World) (hc : cX w0 ⟨m, l⟩ w) :
    Calls Try.prog 8 [.int .i64 n_0, uedges_1, .int .i64 a_2, .int .i64 b_3, .int .u32 (right_4.toNat : Int)].toArray w fun e w' => e = .returned (.bool r) ∧ cX w0 ⟨m, l⟩ w' := by
  unfold syllogistlaw_GrantWays at hr
  refine calls_of_Tr (N := 90) Try.func8 rfl hc rfl (Nat.le_of_ble_eq_true rfl) ?_
  refine Tr.seq ?_
  refine Tr.region_f (fun _ => false) ?_
  refine W.q rfl rfl rfl rfl (by decide) (Yd.as rfl .c) ?_
  refine W.end ?_
  refine NX.sub (env' := [(0, _), (1, _), (2, _), (3, _), (4, _)]) ⟨rfl, rfl, rfl, rfl, rfl, trivial⟩ ?_
  refine NX.then ?_
  refine Tr.seq ?_
  obtain ⟨r1, hr2, hr⟩ := bind_some hr
  refine Tr.region_f (fun i => Nat.beq i 5) ?_
  refine W.q rfl rfl rfl rfl (by decide) (Yd.mv rfl (.t rfl)) ?_
  refine W.q rfl rfl rfl rfl (by decide) (Yd.mv rfl (.t rfl)) ?_
  refine W.q rfl rfl rfl rfl (by decide) (Yd.mv rfl (.t rfl)) ?_
  refine W.q rfl rfl rfl rfl (by decide) (Yd.mv rfl (.t rfl)) ?_
  refine W.q rfl rfl rfl rfl (by decide) (Yd.mv rfl (.t rfl)) ?_
  refine W.e rfl rfl rfl rfl (by decide) (Ef.call (R := fun z x' => ∃ v3 : Value, z = .tuple #[v3, .int .i64 r1.2] ∧ x' = ⟨m, hownT 64 6 Deed.enc v3 r1.1 :: l⟩) rfl Try.func30 rfl rfl (.cons (.t rfl) (.cons (.t rfl) (.cons (.t rfl) (.cons (.t rfl) (.cons (.t rfl) .nil))))) (fun w hw => (grant_Way_ok w0 _ _ fuel n_0 _ _ hedges_1 a_2 b_3 right_4 _ hr2 w hw).mono fun e w' ⟨v3, he, hc'⟩ => ⟨_, _, he, ⟨v3, rfl, rfl⟩, hc'⟩)) ?_
  rintro _ _ ⟨v3, rfl, rfl⟩
  refine ⟨.inl rfl, ?_⟩
  refine W.cast (m' := m) (l' := hownT 64 6 Deed.enc v3 _ :: l) rfl rfl ?_
  refine W.q rfl rfl rfl rfl (by decide) (Yd.mv rfl (.t rfl)) ?_
  refine W.q rfl rfl rfl rfl (by decide) (Yd.ext rfl (.t rfl) rfl) ?_
  refine W.q rfl rfl rfl rfl (by decide) (Yd.ext rfl (.t rfl) rfl) ?_
  refine W.q rfl rfl rfl rfl (by decide) (Yd.as rfl (.t rfl)) ?_
  refine W.q rfl rfl rfl rfl (by decide) (Yd.as rfl (.t rfl)) ?_
  refine W.end ?_
  refine NX.sub (env' := [(0, _), (1, _), (2, _), (3, _), (4, _), (11, _), (12, _)]) ⟨rfl, rfl, rfl, rfl, rfl, rfl, rfl, trivial⟩ ?_
  refine NX.then ?_
  refine Tr.seq ?_
  obtain ⟨r5, hr6, hr⟩ := bind_some hr
  refine Tr.region_f (fun _ => false) ?_
  refine W.q rfl rfl rfl rfl (by decide) (Yd.mv rfl (.t rfl)) ?_
  refine W.q rfl rfl rfl rfl (by decide) (Yd.mv rfl (.t rfl)) ?_
  refine W.q rfl rfl rfl rfl (by decide) (Yd.mv rfl (.t rfl)) ?_
  refine W.q rfl rfl rfl rfl (by decide) (Yd.mv rfl (.t rfl)) ?_
  refine W.q rfl rfl rfl rfl (by decide) (Yd.mv rfl (.t rfl)) ?_
  refine W.q rfl rfl rfl rfl (by decide) (Yd.call (v := .int .i64 r5) rfl Try.func28 rfl rfl (.cons (.t rfl) (.cons (.t rfl) (.cons (.t rfl) (.cons (.t rfl) (.cons (.t rfl) .nil))))) (fun x' hx w hw => syllogistlaw_grantCode_ok w0 x'.m x'.l n_0 _ _ (hedges_1.mono hx.1) a_2 b_3 right_4 _ hr6 w hw)) ?_
  refine W.q rfl rfl rfl rfl (by decide) (Yd.as rfl (.t rfl)) ?_
  refine W.end ?_
  refine NX.sub (env' := [(0, _), (1, _), (2, _), (3, _), (4, _), (11, _), (12, _), (13, _)]) ⟨rfl, rfl, rfl, rfl, rfl, rfl, rfl, rfl, trivial⟩ ?_
  refine NX.then ?_
  refine Tr.seq ?_
  refine Tr.seq ?_
  obtain ⟨ha7, hr⟩ := guard_some hr
  refine Tr.region_f (fun _ => false) ?_
  refine W.q rfl rfl rfl rfl (by decide) (Yd.mv rfl (.t rfl)) ?_
  refine W.q rfl rfl rfl rfl (by decide) (Yd.eql rfl (.t rfl) .c) ?_
  refine W.q rfl rfl rfl rfl (by decide) (Yd.mv rfl (.t rfl)) ?_
  refine W.g rfl rfl rfl rfl rfl (.t rfl _) rfl (by decide) (fun hG => Yd.mv rfl (.t rfl)) ?_
  refine W.g rfl rfl rfl rfl rfl (.t rfl _) rfl (by decide) (fun hG => Yd.mv rfl (.t rfl)) ?_
  refine W.g rfl rfl rfl rfl rfl (.t rfl _) rfl (by decide) (fun hG => Yd.mv rfl (.t rfl)) ?_
  refine W.g rfl rfl rfl rfl rfl (.t rfl _) rfl (by decide) (fun hG => Yd.mv rfl (.t rfl)) ?_
  refine W.g rfl rfl rfl rfl rfl (.t rfl _) rfl (by decide) (fun hG => Yd.call (v := .bool ((((syllogistref_Can fuel edges_1 a_2 b_3 right_4).getD false)))) rfl Try.func29 rfl rfl (.cons (.g rfl hG) (.cons (.g rfl hG) (.cons (.g rfl hG) (.cons (.g rfl hG) .nil)))) (fun x' hx w hw => syllogistref_Can_ok w0 x'.m x'.l fuel _ _ (hedges_1.mono hx.1) a_2 b_3 right_4 _ (gd_get (d := false) ha7 hG) w hw)) ?_
  refine W.g rfl rfl rfl rfl rfl (.t rfl _) rfl (by decide) (fun hG => Yd.not rfl (.g rfl hG)) ?_
  refine W.q rfl rfl rfl rfl (by decide) (Yd.and rfl (.t rfl) .c rfl rfl) ?_
  refine W.end ?_
  refine NX.sub (env' := [(0, _), (1, _), (2, _), (3, _), (4, _), (11, _), (12, _), (13, _), (41, _)]) ⟨rfl, rfl, rfl, rfl, rfl, rfl, rfl, rfl, rfl, trivial⟩ ?_
  refine NX.then ?_
  refine Tr.join (S := fun env x => ∃ x_8 : Int, env = [(0, .int .i64 n_0), (1, uedges_1), (2, .int .i64 a_2), (3, .int .i64 b_3), (4, .int .u32 (right_4.toNat : Int)), (11, v3), (12, .int .i64 r1.2), (13, .int .i64 x_8)] ∧ x = ⟨m, hownT 64 6 Deed.enc v3 r1.1 :: l⟩ ∧ syllogistlaw_GrantWays_k9 n_0 edges_1 a_2 b_3 right_4 fuel r1 x_8 = some r) ?_ (fun hk10 => ?_)
  · rintro _ _ ⟨x_8, rfl, rfl, hr⟩
    unfold syllogistlaw_GrantWays_k9 at hr
    try dsimp only at hr
    refine NX.then ?_
    refine Tr.seq ?_
    refine Tr.seq ?_
    refine Tr.region_f (fun _ => false) ?_
    refine W.q rfl rfl rfl rfl (by decide) (Yd.mv rfl (.t rfl)) ?_
    refine W.q rfl rfl rfl rfl (by decide) (Yd.neq rfl (.t rfl) .c) ?_
    refine W.end ?_
    refine NX.sub (env' := [(0, _), (1, _), (2, _), (3, _), (4, _), (11, _), (12, _), (13, _), (43, _)]) ⟨rfl, rfl, rfl, rfl, rfl, rfl, rfl, rfl, rfl, trivial⟩ ?_
    refine NX.then ?_
    refine Tr.cond (.t rfl) (fun hb => ?_) (fun hb => ?_)
    · have hr := cond_t hb hr
      refine Tr.seq ?_
      refine Tr.region_f (fun _ => false) ?_
      refine W.q rfl rfl rfl rfl (by decide) (Yd.mv rfl (.t rfl)) ?_
      refine W.q rfl rfl rfl rfl (by decide) (Yd.mv rfl (.t rfl)) ?_
      refine W.q rfl rfl rfl rfl (by decide) (Yd.eql rfl (.t rfl) (.t rfl)) ?_
      refine W.q rfl rfl rfl rfl (by decide) (Yd.mv rfl (.t rfl)) ?_
      refine W.g rfl rfl rfl rfl rfl (.t rfl _) rfl (by decide) (fun hG => Yd.mv rfl (.t rfl)) ?_
      refine W.g rfl rfl rfl rfl rfl (.t rfl _) rfl (by decide) (fun hG => Yd.lenO (p := 0) rfl rfl Try.underlying44 (.g rfl hG)) ?_
      refine W.g rfl rfl rfl rfl rfl (.t rfl _) rfl (by decide) (fun hG => Yd.eql rfl (.g rfl hG) .c) ?_
      refine W.q rfl rfl rfl rfl (by decide) (Yd.and rfl (.t rfl) .c rfl rfl) ?_
      refine W.q rfl rfl rfl rfl (by decide) (Yd.as rfl (.t rfl)) ?_
      refine W.end ?_
      refine NX.sub (env' := [(10, _)]) ⟨rfl, trivial⟩ ?_
      refine NX.drop (l' := l) (.cons _ (.refl _)) ?_
      refine NX.then ?_
      refine Tr.ret' (RT.then ?_)
      refine res1 rfl rfl ?_
      intro w hc
      cases hr
      exact ⟨rfl, hc⟩
    · have hr := cond_f hb hr
      refine Tr.skip' ?_
      refine NX.then ?_
      refine Tr.seq ?_
      refine Tr.seq ?_
      refine Tr.region_f (fun _ => false) ?_
      refine W.q rfl rfl rfl rfl (by decide) (Yd.mv rfl (.t rfl)) ?_
      refine W.q rfl rfl rfl rfl (by decide) (Yd.lenO (p := 0) rfl rfl Try.underlying44 (.t rfl)) ?_
      refine W.q rfl rfl rfl rfl (by decide) (Yd.mv rfl .c) ?_
      refine W.end ?_
      refine NX.sub (env' := [(0, _), (1, _), (2, _), (3, _), (4, _), (11, _), (12, _), (52, _), (53, _), (54, _)]) ⟨rfl, rfl, rfl, rfl, rfl, rfl, rfl, rfl, rfl, rfl, trivial⟩ ?_
      refine NX.then ?_
      refine Tr.join (S := fun env x => env = [(0, .int .i64 n_0), (1, uedges_1), (2, .int .i64 a_2), (3, .int .i64 b_3), (4, .int .u32 (right_4.toNat : Int)), (11, v3), (12, .int .i64 r1.2)] ∧ x = ⟨m, hownT 64 6 Deed.enc v3 r1.1 :: l⟩ ∧ syllogistlaw_GrantWays_k13 n_0 edges_1 a_2 b_3 right_4 fuel r1 = some r) ?_ (fun hk14 => ?_)
      · rintro _ _ ⟨rfl, rfl, hr⟩
        unfold syllogistlaw_GrantWays_k13 at hr
        try dsimp only at hr
        refine NX.then ?_
        refine Tr.seq ?_
        refine Tr.seq ?_
        obtain ⟨r15, hr16, hr⟩ := bind_some hr
        obtain ⟨r17, hr18, hr⟩ := bind_some hr
        refine Tr.region_f (fun _ => false) ?_
        refine W.q rfl rfl rfl rfl (by decide) (Yd.mv rfl (.t rfl)) ?_
        refine W.q rfl rfl rfl rfl (by decide) (Yd.mv rfl (.t rfl)) ?_
        refine W.q rfl rfl rfl rfl (by decide) (Yd.mv rfl (.t rfl)) ?_
        refine W.q rfl rfl rfl rfl (by decide) (Yd.mv rfl (.t rfl)) ?_
        refine W.q rfl rfl rfl rfl (by decide) (Yd.call (v := .int .u32 (r15.toNat : Int)) rfl Try.func31 rfl rfl (.cons (.t rfl) (.cons (.t rfl) (.cons (.t rfl) .nil))) (fun x' hx w hw => syllogistref_Over_ok w0 x'.m x'.l _ _ (hedges_1.mono hx.1) a_2 b_3 _ hr16 w hw)) ?_
        refine W.q rfl rfl rfl rfl (by decide) (Yd.call (v := .bool r17) rfl Try.func19 rfl rfl (.cons (.t rfl) (.cons (.t rfl) .nil)) (fun x' hx w hw => syllogistref_In_ok w0 x'.m x'.l right_4 r15 _ hr18 w hw)) ?_
        refine W.end ?_
        refine NX.sub (env' := [(0, _), (1, _), (2, _), (3, _), (4, _), (11, _), (12, _), (67, _)]) ⟨rfl, rfl, rfl, rfl, rfl, rfl, rfl, rfl, trivial⟩ ?_
        refine NX.then ?_
        refine Tr.cond (.t rfl) (fun hb => ?_) (fun hb => ?_)
        · have hr := cond_t hb hr
          refine Tr.seq ?_
          refine Tr.region_f (fun _ => false) ?_
          refine W.q rfl rfl rfl rfl (by decide) (Yd.mv rfl (.t rfl)) ?_
          refine W.q rfl rfl rfl rfl (by decide) (Yd.eql rfl (.t rfl) .c) ?_
          refine W.q rfl rfl rfl rfl (by decide) (Yd.mv rfl (.t rfl)) ?_
          refine W.g rfl rfl rfl rfl rfl (.t rfl _) rfl (by decide) (fun hG => Yd.mv rfl (.t rfl)) ?_
          refine W.g rfl rfl rfl rfl rfl (.t rfl _) rfl (by decide) (fun hG => Yd.lenO (p := 0) rfl rfl Try.underlying44 (.g rfl hG)) ?_
          refine W.g rfl rfl rfl rfl rfl (.t rfl _) rfl (by decide) (fun hG => Yd.eql rfl (.g rfl hG) .c) ?_
          refine W.q rfl rfl rfl rfl (by decide) (Yd.and rfl (.t rfl) .c rfl rfl) ?_
          refine W.q rfl rfl rfl rfl (by decide) (Yd.as rfl (.t rfl)) ?_
          refine W.end ?_
          refine NX.sub (env' := [(10, _)]) ⟨rfl, trivial⟩ ?_
          refine NX.drop (l' := l) (.cons _ (.refl _)) ?_
          refine NX.then ?_
          refine Tr.ret' (RT.then ?_)
          refine res1 rfl rfl ?_
          intro w hc
          cases hr
          exact ⟨rfl, hc⟩
        · have hr := cond_f hb hr
          refine Tr.skip' ?_
          refine NX.then ?_
          refine Tr.seq ?_
          refine Tr.freezeT (enc := Deed.enc) (n := 6) (pos := 0) (xs := r1.1) (fun _ => rfl) rfl (fun m19 hsm19 hu20 => ?_)
          have hedges_1 := hedges_1.mono hsm19
          refine Tr.cast (m' := m19) (l' := l) rfl rfl ?_
          refine Tr.addnil 25 1 ?_
          refine Tr.cast (m' := m19) (l' := hownT 25 1 encI (.slice none 0 0) (([] : List Int)) :: l) rfl rfl ?_
          refine Tr.addnil 100 3 ?_
          refine Tr.cast (m' := m19) (l' := hownT 100 3 Edge.enc (.slice none 0 0) (([] : List Edge)) :: hownT 25 1 encI (.slice none 0 0) (([] : List Int)) :: l) rfl rfl ?_
          obtain ⟨r23, hr24, hr⟩ := bind_some hr
          refine Tr.region_f (fun i => Nat.beq i 3 || Nat.beq i 4 || Nat.beq i 5) ?_
          refine W.q rfl rfl rfl rfl (by decide) (Yd.mv rfl (.t rfl)) ?_
          refine W.q rfl rfl rfl rfl (by decide) (Yd.mv rfl (.t rfl)) ?_
          refine W.q rfl rfl rfl rfl (by decide) (Yd.mv rfl (.t rfl)) ?_
          refine W.e rfl rfl rfl rfl (by decide) (Ef.call (R := fun z x' => ∃ u26 : Value, ∃ u28 : Value, ∃ m25 : Snap, z = .agg #[u26, .int .i64 r23.n, u28] ∧ x' = ⟨m25, hownT 100 3 Edge.enc (.slice none 0 0) (([] : List Edge)) :: hownT 25 1 encI (.slice none 0 0) (([] : List Int)) :: l⟩ ∧ Sle m19 m25 ∧ RS rI m25 u26 r23.codes ∧ RS rEdge m25 u28 r23.edges) rfl Try.func24 rfl rfl (.cons (.t rfl) (.cons (.t rfl) (.cons (.t rfl) .nil))) (fun w hw => (syllogistref_Grant_ok w0 _ _ fuel n_0 _ _ hedges_1 _ _ hu20 _ hr24 w hw).mono fun e w' ⟨u26, u28, m25, he, hm', hu27, hu29, hc'⟩ => ⟨_, _, he, ⟨u26, u28, m25, rfl, rfl, hm', hu27, hu29⟩, hc'⟩)) ?_
          rintro _ _ ⟨u26, u28, m25, rfl, rfl, hsm25, hu27, hu29⟩
          have hedges_1 := hedges_1.mono hsm25
          have hu20 := hu20.mono hsm25
          refine ⟨.inl rfl, ?_⟩
          refine W.cast (m' := m25) (l' := hownT 100 3 Edge.enc (.slice none 0 0) (([] : List Edge)) :: hownT 25 1 encI (.slice none 0 0) (([] : List Int)) :: l) rfl rfl ?_
          refine W.e rfl rfl rfl rfl (by decide) (Ef.al rfl ZR47 rfl) ?_
          rintro _ _ ⟨b30, rfl, rfl⟩
          refine ⟨.inl rfl, ?_⟩
          refine W.cast (m' := m25) (l' := hcells b30 [_, _, _] 47 :: hownT 100 3 Edge.enc (.slice none 0 0) (([] : List Edge)) :: hownT 25 1 encI (.slice none 0 0) (([] : List Int)) :: l) rfl rfl ?_
          refine W.s rfl rfl rfl rfl (Ef.stBs (pos := 0) (us := [u26, .int .i64 r23.n, u28]) (cs' := [_, _, _]) (.cons (On.ro hu27) (.cons (On.lit rfl) (.cons (On.ro hu29) .nil))) rfl rfl (.t rfl) (.t rfl) SZ47 rfl rfl (Nat.le_of_ble_eq_true rfl) rfl) ?_
          rintro _ _ ⟨rfl, rfl⟩
          refine ⟨.inl rfl, ?_⟩
          refine W.cast (m' := m25) (l' := hcells b30 [_, _, _] 47 :: hownT 100 3 Edge.enc (.slice none 0 0) (([] : List Edge)) :: hownT 25 1 encI (.slice none 0 0) (([] : List Int)) :: l) rfl rfl ?_
          refine W.end ?_
          refine NX.sub (env' := [(2, _), (3, _), (4, _), (12, _), (16, _)]) ⟨rfl, rfl, rfl, rfl, rfl, trivial⟩ ?_
          refine NX.drop (l' := hcells b30 [_, _, _] 47 :: l) (.cons_cons _ (.cons _ (.cons _ (.refl _)))) ?_
          refine NX.then ?_
          refine Tr.seq ?_
          obtain ⟨ha32, hr⟩ := guard_some hr
          obtain ⟨ha33, hr⟩ := guard_some hr
          refine Tr.region_f (fun _ => false) ?_
          refine W.q rfl rfl rfl rfl (by decide) (Yd.mv rfl (.t rfl)) ?_
          refine W.q rfl rfl rfl rfl (by decide) (Yd.eql rfl (.t rfl) .c) ?_
          refine W.q rfl rfl rfl rfl (by decide) (Yd.mv rfl (.t rfl)) ?_
          refine W.g rfl rfl rfl rfl rfl (.t rfl _) rfl (by decide) (fun hG => Yd.mv rfl (.t rfl)) ?_
          refine W.g rfl rfl rfl rfl rfl (.t rfl _) rfl (by decide) (fun hG => Yd.fldB rfl Try.underlying47 rfl SZ43 rfl (.t rfl)) ?_
          refine W.g rfl rfl rfl rfl rfl (.t rfl _) rfl (by decide) (fun hG => Yd.ldB (pos := 0) rfl rfl rfl ON43 (.g rfl hG)) ?_
          refine W.g rfl rfl rfl rfl rfl (.t rfl _) rfl (by decide) (fun hG => Yd.mv rfl (.t rfl)) ?_
          refine W.g rfl rfl rfl rfl rfl (.t rfl _) rfl (by decide) (fun hG => Yd.mv rfl (.t rfl)) ?_
          refine W.g rfl rfl rfl rfl rfl (.t rfl _) rfl (by decide) (fun hG => Yd.call (v := .int .u32 (((((syllogistref_Over r23.edges a_2 b_3).getD (0#32)))).toNat : Int)) rfl Try.func31 rfl rfl (.cons (.g rfl hG) (.cons (.g rfl hG) (.cons (.g rfl hG) .nil))) (fun x' hx w hw => syllogistref_Over_ok w0 x'.m x'.l _ _ (hu29.mono hx.1) a_2 b_3 _ (gd_get (d := (0#32)) ha32 hG) w hw)) ?_
          refine W.g rfl rfl rfl rfl rfl (.t rfl _) rfl (by decide) (fun hG => Yd.call (v := .bool ((((syllogistref_In right_4 ((((syllogistref_Over r23.edges a_2 b_3).getD (0#32))))).getD false)))) rfl Try.func19 rfl rfl (.cons (.g rfl hG) (.cons (.g rfl hG) .nil)) (fun x' hx w hw => syllogistref_In_ok w0 x'.m x'.l right_4 ((((syllogistref_Over r23.edges a_2 b_3).getD (0#32)))) _ (gd_get (d := false) ha33 hG) w hw)) ?_
          refine W.q rfl rfl rfl rfl (by decide) (Yd.and rfl (.t rfl) .c rfl rfl) ?_
          refine W.q rfl rfl rfl rfl (by decide) (Yd.as rfl (.t rfl)) ?_
          refine W.end ?_
          refine NX.sub (env' := [(10, _)]) ⟨rfl, trivial⟩ ?_
          refine NX.drop (l' := l) (.cons _ (.refl _)) ?_
          refine NX.then ?_
          refine Tr.ret' ?_
          refine res1 rfl rfl ?_
          intro w hc
          cases hr
          exact ⟨rfl, (cX_le (x := ⟨m, _⟩) ⟨(hsm19.trans hsm25), [], rfl⟩ hc)⟩
      refine Tr.lenO (pos := 0) rfl (fun hlen34 => ?_)
      refine Tr.block ?_
      refine Tr.sub (env' := [(0, _), (1, _), (2, _), (3, _), (4, _), (11, _), (12, _), (52, _), (53, _), (54, _)]) ⟨rfl, rfl, rfl, rfl, rfl, rfl, rfl, rfl, rfl, rfl, trivial⟩ ?_
      refine Tr.loop (S := fun n (z : Int × Unit) env x => match z with | (t_35, _) => env = [(0, .int .i64 n_0), (1, uedges_1), (2, .int .i64 a_2), (3, .int .i64 b_3), (4, .int .u32 (right_4.toNat : Int)), (11, v3), (12, .int .i64 r1.2), (52, v3), (53, .int .i64 ((r1.1.length : Int))), (54, .int .i64 t_35)] ∧ x = ⟨m, hownT 64 6 Deed.enc v3 r1.1 :: l⟩ ∧ n = ((r1.1.length : Int) - t_35).toNat ∧ 0 ≤ t_35 ∧ forK (σ := Unit) (fun i s nx_ => syllogistlaw_GrantWays_b36 r1 i nx_) (fun _ => syllogistlaw_GrantWays_k13 n_0 edges_1 a_2 b_3 right_4 fuel r1) n t_35 () = some r) _ ((0 : Int), ()) ⟨rfl, rfl, rfl, (by omega), hr⟩ ?_
      rintro n38 ⟨t_35, _⟩ env x ⟨rfl, rfl, hnt_35, h0t_35, hr⟩
      cases n38 with
      | zero =>
        simp only [forK] at hr
        refine Tr.seq ?_
        refine Tr.region_f (fun _ => false) ?_
        refine W.q rfl rfl rfl rfl (by decide) (Yd.lss rfl (.t rfl) (.t rfl)) ?_
        refine W.end ?_
        refine NX.sub (env' := [(0, _), (1, _), (2, _), (3, _), (4, _), (11, _), (12, _), (52, _), (53, _), (54, _), (55, _)]) ⟨rfl, rfl, rfl, rfl, rfl, rfl, rfl, rfl, rfl, rfl, rfl, trivial⟩ ?_
        refine NX.then ?_
        refine Tr.seq ?_
        refine Tr.cond (.t rfl) (fun hb => ?_) (fun hb => ?_)
        · exact absurd (hb.symm.trans (fr_end hnt_35)) (by decide)
        ·
          refine Tr.exit' (EX.then (EX.then (EX.block ?_)))
          refine NX.sub (env' := [(0, _), (1, _), (2, _), (3, _), (4, _), (11, _), (12, _)]) ⟨rfl, rfl, rfl, rfl, rfl, rfl, rfl, trivial⟩ ?_
          exact hk14 _ _ ⟨rfl, rfl, hr⟩
      | succ n38 =>
        obtain ⟨nx37, hnx37, hr⟩ := forK_succ hr
        try dsimp only at hr
        unfold syllogistlaw_GrantWays_b36 at hr
        try dsimp only at hr
        have hltt_35 := fr_bnd hnt_35
        refine Tr.seq ?_
        refine Tr.region_f (fun _ => false) ?_
        refine W.q rfl rfl rfl rfl (by decide) (Yd.lss rfl (.t rfl) (.t rfl)) ?_
        refine W.end ?_
        refine NX.sub (env' := [(0, _), (1, _), (2, _), (3, _), (4, _), (11, _), (12, _), (52, _), (53, _), (54, _), (55, _)]) ⟨rfl, rfl, rfl, rfl, rfl, rfl, rfl, rfl, rfl, rfl, rfl, trivial⟩ ?_
        refine NX.then ?_
        refine Tr.seq ?_
        refine Tr.cond (.t rfl) (fun hb => ?_) (fun hb => ?_)
        rotate_left
        · exact absurd (hb.symm.trans (fr_go hnt_35)) (by decide)
        ·
          refine Tr.skip' ?_
          refine NX.then ?_
          refine Tr.seq ?_
          refine Tr.block ?_
          refine Tr.seq ?_
          obtain ⟨y39, hy40, hr⟩ := bind_some hr
          refine Tr.region_f (fun i => Nat.beq i 2 || Nat.beq i 3) ?_
          refine W.q rfl rfl rfl rfl (by decide) (Yd.idxT (pos := 0) rfl hy40 rfl Try.underlying44 SZ64 (.t rfl) (.t rfl)) ?_
          refine W.q rfl rfl rfl rfl (by decide) (Yd.ldTs (enc := Deed.enc) (n := 6) (pos := 0) (us := [_, _, _, _, _, _]) (fun _ => rfl) rfl hy40 rfl (by decide) rfl ON64 US64 SZ64 (.t rfl)) ?_
          refine W.e rfl rfl rfl rfl (by decide) (Ef.al rfl ZR64 rfl) ?_
          rintro _ _ ⟨b41, rfl, rfl⟩
          refine ⟨.inl rfl, ?_⟩
          refine W.cast (m' := m) (l' := hcells b41 [_, _, _, _, _, _] 64 :: hownT 64 6 Deed.enc v3 _ :: l) rfl rfl ?_
          refine W.s rfl rfl rfl rfl (Ef.stB (pos := 0) (us := [_, _, _, _, _, _]) (cs' := [_, _, _, _, _, _]) rfl rfl (.t rfl) (.t rfl) SZ64 rfl rfl rfl (Nat.le_of_ble_eq_true rfl) rfl) ?_
          rintro _ _ ⟨rfl, rfl⟩
          refine ⟨.inl rfl, ?_⟩
          refine W.cast (m' := m) (l' := hcells b41 [_, _, _, _, _, _] 64 :: hownT 64 6 Deed.enc v3 _ :: l) rfl rfl ?_
          refine W.end ?_
          refine NX.sub (env' := [(0, _), (1, _), (2, _), (3, _), (4, _), (11, _), (12, _), (52, _), (53, _), (54, _), (15, _)]) ⟨rfl, rfl, rfl, rfl, rfl, rfl, rfl, rfl, rfl, rfl, rfl, trivial⟩ ?_
          refine NX.then ?_
          refine Tr.seq ?_
          refine Tr.region_f (fun _ => false) ?_
          refine W.q rfl rfl rfl rfl (by decide) (Yd.fldB rfl Try.underlying64 rfl SZ3 rfl (.t rfl)) ?_
          refine W.q rfl rfl rfl rfl (by decide) (Yd.ldB (pos := 0) rfl rfl rfl ON3 (.t rfl)) ?_
          refine W.q rfl rfl rfl rfl (by decide) (Yd.eql rfl (.t rfl) .c) ?_
          refine W.end ?_
          refine NX.sub (env' := [(0, _), (1, _), (2, _), (3, _), (4, _), (11, _), (12, _), (52, _), (53, _), (54, _), (60, _)]) ⟨rfl, rfl, rfl, rfl, rfl, rfl, rfl, rfl, rfl, rfl, rfl, trivial⟩ ?_
          refine NX.drop (l' := hownT 64 6 Deed.enc v3 _ :: l) (.cons _ (.cons_cons _ (.refl _))) ?_
          refine NX.then ?_
          refine Tr.cond (.t rfl) (fun hb => ?_) (fun hb => ?_)
          · have hr := cond_t hb hr
            refine Tr.seq ?_
            refine Tr.region_f (fun _ => false) ?_
            refine W.q rfl rfl rfl rfl (by decide) (Yd.as rfl .c) ?_
            refine W.end ?_
            refine NX.sub (env' := [(10, _)]) ⟨rfl, trivial⟩ ?_
            refine NX.drop (l' := l) (.cons _ (.refl _)) ?_
            refine NX.then ?_
            refine Tr.ret' (RT.block (RT.then (RT.then (RT.block (RT.then ?_)))))
            refine res1 rfl rfl ?_
            intro w hc
            cases hr
            exact ⟨rfl, hc⟩
          · have hr := cond_f hb hr
            refine Tr.skip' ?_
            refine NX.block ?_
            refine NX.then ?_
            refine Tr.region_f (fun _ => false) ?_
            refine W.q rfl rfl rfl rfl (by decide) (Yd.add rfl (.t rfl) .c) ?_
            refine W.q rfl rfl rfl rfl (by decide) (Yd.mv rfl (.t rfl)) ?_
            refine W.end ?_
            refine NX.sub (env' := [(0, _), (1, _), (2, _), (3, _), (4, _), (11, _), (12, _), (52, _), (53, _), (54, _)]) ⟨rfl, rfl, rfl, rfl, rfl, rfl, rfl, rfl, rfl, rfl, trivial⟩ ?_
            refine NX.sub (env' := [(0, _), (1, _), (2, _), (3, _), (4, _), (11, _), (12, _), (52, _), (53, _), (54, _)]) ⟨rfl, rfl, rfl, rfl, rfl, rfl, rfl, rfl, rfl, rfl, trivial⟩ ?_
            have hw := w64_id (n := t_35 + 1) (by omega) (by omega)
            exact NX.again n38 (t_35 + 1, ()) (Nat.lt_succ_self _) ⟨(by rw [hw] <;> rfl), rfl, (fr_dec hnt_35), (by omega), ((hnx37 _).symm.trans hr)⟩
  refine Tr.cond (.t rfl) (fun hb => ?_) (fun hb => ?_)
  · have hr := cond_t hb hr
    refine Tr.region_f (fun _ => false) ?_
    refine W.q rfl rfl rfl rfl (by decide) (Yd.as rfl .c) ?_
    refine W.end ?_
    refine NX.sub (env' := [(0, _), (1, _), (2, _), (3, _), (4, _), (11, _), (12, _), (13, _)]) ⟨rfl, rfl, rfl, rfl, rfl, rfl, rfl, rfl, trivial⟩ ?_
    refine NX.sub (env' := [(0, _), (1, _), (2, _), (3, _), (4, _), (11, _), (12, _), (13, _)]) ⟨rfl, rfl, rfl, rfl, rfl, rfl, rfl, rfl, trivial⟩ ?_
    exact hk10 _ _ ⟨_, rfl, rfl, hr⟩
  · have hr := cond_f hb hr
    refine Tr.skip' ?_
    refine NX.sub (env' := [(0, _), (1, _), (2, _), (3, _), (4, _), (11, _), (12, _), (13, _)]) ⟨rfl, rfl, rfl, rfl, rfl, rfl, rfl, rfl, trivial⟩ ?_
    exact hk10 _ _ ⟨_, rfl, rfl, hr⟩
end Go.Proofs.Ytehfjfaanhdbaaa.Sy
