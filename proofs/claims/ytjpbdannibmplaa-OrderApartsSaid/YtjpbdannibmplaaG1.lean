/- Functions of the program as plain functions, and that the translation computes them; the conditions stand in each theorem. Printed by an own program. -/
import Derived.Test.YtjpbdannibmplaaG1a
import Derived.Test.YtjpbdannibmplaaProg
namespace Go.Proofs.Ytjpbdannibmplaa.Sy
open Go
set_option linter.unusedVariables false
def syllogistlaw_OrderLines (fuel : Nat) (n_0 : Int) (pairs_1 : List (Int × Int)) : Option (Bool) :=
  (order_Line fuel n_0 pairs_1).bind fun r1 =>
  (syllogistref_OrderCheck fuel n_0 pairs_1).bind fun r5 =>
  (bif (r5 != (0 : Int)) then
  some (((r1.2 == r5) && ((r1.1.length : Int) == (0 : Int))))
  else
  (bif ((r1.2 == (0 : Int)) == true) then
  (syllogistref_Lined fuel n_0 pairs_1 []).bind fun r8 =>
  (syllogistref_Ints r1.1 r8).bind fun r13 =>
  some (((r1.2 == (0 : Int)) && r13))
  else
  some (((r1.2 == (0 : Int)) && false))))

set_option maxRecDepth 100000 in
theorem syllogistlaw_OrderLines_ok (w0 : World) (m : Snap) (l : List HI) (fuel : Nat) (n_0 : Int) (upairs_1 : Value) (pairs_1 : List (Int × Int)) (hpairs_1 : RS rP m upairs_1 pairs_1) (r : Bool) (hr : syllogistlaw_OrderLines fuel n_0 pairs_1 = some r) (w : World) (hc : cX w0 ⟨m, l⟩ w) :
    Calls Try.prog 5 [.int .i64 n_0, upairs_1].toArray w fun e w' => e = .returned (.bool r) ∧ cX w0 ⟨m, l⟩ w' := by
  unfold syllogistlaw_OrderLines at hr
  refine calls_of_Tr (N := 36) Try.func5 rfl hc rfl (Nat.le_of_ble_eq_true rfl) ?_
  refine Tr.seq ?_
  refine Tr.region_f (fun _ => false) ?_
  refine W.q rfl rfl rfl rfl (by decide) (Yd.as rfl .c) ?_
  refine W.end ?_
  refine NX.sub (env' := [(0, _), (1, _)]) ⟨rfl, rfl, trivial⟩ ?_
  refine NX.then ?_
  refine Tr.seq ?_
  obtain ⟨r1, hr2, hr⟩ := bind_some hr
  refine Tr.region_f (fun i => Nat.beq i 2) ?_
  refine W.q rfl rfl rfl rfl (by decide) (Yd.mv rfl (.t rfl)) ?_
  refine W.q rfl rfl rfl rfl (by decide) (Yd.mv rfl (.t rfl)) ?_
  refine W.e rfl rfl rfl rfl (by decide) (Ef.call (R := fun z x' => ∃ v3 : Value, z = .tuple #[v3, .int .i64 r1.2] ∧ x' = ⟨m, hownT 3 1 encI v3 r1.1 :: l⟩) rfl Try.func22 rfl rfl (.cons (.t rfl) (.cons (.t rfl) .nil)) (fun w hw => (order_Line_ok w0 _ _ fuel n_0 _ _ hpairs_1 _ hr2 w hw).mono fun e w' ⟨v3, he, hc'⟩ => ⟨_, _, he, ⟨v3, rfl, rfl⟩, hc'⟩)) ?_
  rintro _ _ ⟨v3, rfl, rfl⟩
  refine ⟨.inl rfl, ?_⟩
  refine W.cast (m' := m) (l' := hownT 3 1 encI v3 _ :: l) rfl rfl ?_
  refine W.q rfl rfl rfl rfl (by decide) (Yd.mv rfl (.t rfl)) ?_
  refine W.q rfl rfl rfl rfl (by decide) (Yd.ext rfl (.t rfl) rfl) ?_
  refine W.q rfl rfl rfl rfl (by decide) (Yd.ext rfl (.t rfl) rfl) ?_
  refine W.q rfl rfl rfl rfl (by decide) (Yd.as rfl (.t rfl)) ?_
  refine W.q rfl rfl rfl rfl (by decide) (Yd.as rfl (.t rfl)) ?_
  refine W.end ?_
  refine NX.sub (env' := [(0, _), (1, _), (5, _), (6, _)]) ⟨rfl, rfl, rfl, rfl, trivial⟩ ?_
  refine NX.then ?_
  refine Tr.seq ?_
  obtain ⟨r5, hr6, hr⟩ := bind_some hr
  refine Tr.region_f (fun _ => false) ?_
  refine W.q rfl rfl rfl rfl (by decide) (Yd.mv rfl (.t rfl)) ?_
  refine W.q rfl rfl rfl rfl (by decide) (Yd.mv rfl (.t rfl)) ?_
  refine W.q rfl rfl rfl rfl (by decide) (Yd.call (v := .int .i64 r5) rfl Try.func16 rfl rfl (.cons (.t rfl) (.cons (.t rfl) .nil)) (fun x' hx w hw => syllogistref_OrderCheck_ok w0 x'.m x'.l fuel n_0 _ _ (hpairs_1.mono hx.1) _ hr6 w hw)) ?_
  refine W.q rfl rfl rfl rfl (by decide) (Yd.as rfl (.t rfl)) ?_
  refine W.end ?_
  refine NX.sub (env' := [(0, _), (1, _), (5, _), (6, _), (7, _)]) ⟨rfl, rfl, rfl, rfl, rfl, trivial⟩ ?_
  refine NX.then ?_
  refine Tr.seq ?_
  refine Tr.seq ?_
  refine Tr.region_f (fun _ => false) ?_
  refine W.q rfl rfl rfl rfl (by decide) (Yd.mv rfl (.t rfl)) ?_
  refine W.q rfl rfl rfl rfl (by decide) (Yd.neq rfl (.t rfl) .c) ?_
  refine W.end ?_
  refine NX.sub (env' := [(0, _), (1, _), (5, _), (6, _), (7, _), (18, _)]) ⟨rfl, rfl, rfl, rfl, rfl, rfl, trivial⟩ ?_
  refine NX.then ?_
  refine Tr.cond (.t rfl) (fun hb => ?_) (fun hb => ?_)
  · have hr := cond_t hb hr
    refine Tr.seq ?_
    refine Tr.region_f (fun _ => false) ?_
    refine W.q rfl rfl rfl rfl (by decide) (Yd.mv rfl (.t rfl)) ?_
    refine W.q rfl rfl rfl rfl (by decide) (Yd.mv rfl (.t rfl)) ?_
    refine W.q rfl rfl rfl rfl (by decide) (Yd.eql rfl (.t rfl) (.t rfl)) ?_
    refine W.q rfl rfl rfl rfl (by decide) (Yd.mv rfl (.t rfl)) ?_
    refine W.g rfl rfl rfl rfl rfl (.t rfl _) rfl (by decide) (fun hG => Yd.mv rfl (.t rfl)) ?_
    refine W.g rfl rfl rfl rfl rfl (.t rfl _) rfl (by decide) (fun hG => Yd.lenO (p := 0) rfl rfl Try.underlying36 (.g rfl hG)) ?_
    refine W.g rfl rfl rfl rfl rfl (.t rfl _) rfl (by decide) (fun hG => Yd.eql rfl (.g rfl hG) .c) ?_
    refine W.q rfl rfl rfl rfl (by decide) (Yd.and rfl (.t rfl) .c rfl rfl) ?_
    refine W.q rfl rfl rfl rfl (by decide) (Yd.as rfl (.t rfl)) ?_
    refine W.end ?_
    refine NX.sub (env' := [(4, _)]) ⟨rfl, trivial⟩ ?_
    refine NX.drop (l' := l) (.cons _ (.refl _)) ?_
    refine NX.then ?_
    refine Tr.ret' (RT.then ?_)
    refine res1 rfl rfl ?_
    intro w hc
    cases hr
    exact ⟨rfl, hc⟩
  · have hr := cond_f hb hr
    refine Tr.skip' ?_
    refine NX.then ?_
    refine Tr.seq ?_
    refine Tr.region_f (fun i => Nat.beq i 6) ?_
    refine W.q rfl rfl rfl rfl (by decide) (Yd.mv rfl (.t rfl)) ?_
    refine W.q rfl rfl rfl rfl (by decide) (Yd.eql rfl (.t rfl) .c) ?_
    refine W.q rfl rfl rfl rfl (by decide) (Yd.mv rfl (.t rfl)) ?_
    refine W.g rfl rfl rfl rfl rfl (.t rfl _) rfl (by decide) (fun hG => Yd.mv rfl (.t rfl)) ?_
    refine W.g rfl rfl rfl rfl rfl (.t rfl _) rfl (by decide) (fun hG => Yd.mv rfl (.t rfl)) ?_
    refine W.g rfl rfl rfl rfl rfl (.t rfl _) rfl (by decide) (fun hG => Yd.mv rfl (.t rfl)) ?_
    refine W.split (b := ((r1.2 == (0 : Int)) == true)) (fun hb7 => ?_) (fun hb7 => ?_)
    · have hr := cond_t hb7 hr
      obtain ⟨r8, hr9, hr⟩ := bind_some hr
      obtain ⟨r13, hr14, hr⟩ := bind_some hr
      refine W.ge rfl rfl rfl rfl rfl (.t rfl _) hb7 rfl (by decide) (Ef.call (R := fun z x' => ∃ u10 : Value, ∃ m11 : Snap, z = u10 ∧ x' = ⟨m11, hownT 3 1 encI v3 r1.1 :: l⟩ ∧ Sle m m11 ∧ RS rI m11 u10 r8) rfl Try.func24 rfl rfl (.cons (.g rfl hb7) (.cons (.g rfl hb7) (.cons .c .nil))) (fun w hw => (syllogistref_Lined_ok w0 _ _ fuel n_0 _ _ hpairs_1 _ _ (RS.nil _ _) _ hr9 w hw).mono fun e w' ⟨u10, m11, he, hm', hu12, hc'⟩ => ⟨_, _, he, ⟨u10, m11, rfl, rfl, hm', hu12⟩, hc'⟩)) ?_
      rintro u10 _ ⟨_, m11, rfl, rfl, hsm11, hu12⟩
      have hpairs_1 := hpairs_1.mono hsm11
      refine ⟨.inl rfl, ?_⟩
      refine W.cast (m' := m11) (l' := hownT 3 1 encI v3 _ :: l) rfl rfl ?_
      refine W.g rfl rfl rfl rfl rfl (.t rfl _) rfl (by decide) (fun hG => Yd.call (v := .bool r13) rfl Try.func23 rfl rfl (.cons (.g rfl hb7) (.cons (.t rfl) .nil)) (by intro x' hx w hw; obtain ⟨p0, hp0⟩ := hx.at (p := 0) rfl; obtain ⟨m2, hm2, hc2, ⟨L2, hl1, hl2⟩, hback⟩ := cX_lend hw hp0 lone_own; have hL1 : RS rI m2 _ _ := RS_of_own hl1 hl2; exact (syllogistref_Ints_ok w0 m2 _ _ _ hL1 _ _ (hu12.mono (hx.1.trans hm2)) _ hr14 w hc2).mono fun e w' ⟨he, hc'⟩ => ⟨he, (hback m2 _ _ w' (.refl _) hp0).2 hc'⟩)) ?_
      refine W.q rfl rfl rfl rfl (by decide) (Yd.and rfl (.t rfl) .c rfl rfl) ?_
      refine W.q rfl rfl rfl rfl (by decide) (Yd.as rfl (.t rfl)) ?_
      refine W.end ?_
      refine NX.sub (env' := [(4, _)]) ⟨rfl, trivial⟩ ?_
      refine NX.drop (l' := l) (.cons _ (.refl _)) ?_
      refine NX.then ?_
      refine Tr.ret' ?_
      refine res1 rfl rfl ?_
      intro w hc
      cases hr
      exact ⟨rfl, (cX_le (x := ⟨m, _⟩) ⟨hsm11, [], rfl⟩ hc)⟩
    · have hr := cond_f hb7 hr
      refine W.gF rfl rfl rfl rfl (.t rfl _) hb7 rfl (by decide) (undef) ?_
      refine W.gF rfl rfl rfl rfl (.t rfl _) hb7 rfl (by decide) (.bool false) ?_
      refine W.q rfl rfl rfl rfl (by decide) (Yd.and rfl (.t rfl) .c rfl rfl) ?_
      refine W.q rfl rfl rfl rfl (by decide) (Yd.as rfl (.t rfl)) ?_
      refine W.end ?_
      refine NX.sub (env' := [(4, _)]) ⟨rfl, trivial⟩ ?_
      refine NX.drop (l' := l) (.cons _ (.refl _)) ?_
      refine NX.then ?_
      refine Tr.ret' ?_
      refine res1 rfl rfl ?_
      intro w hc
      cases hr
      exact ⟨rfl, hc⟩

def order_Free_k3 : Option (Bool) :=
  some true

def order_Free_b7 (up_0 : List (BitVec 32)) (s_1 : (BitVec 32)) (t_6 : Int) (nx8 : Unit → Option (Bool)) : Option (Bool) :=
  (geti up_0 t_6).bind fun y10 =>
  (bif ((((s_1 >>> t_6.toNat) &&& 1#32) == 1#32) && ((y10 &&& s_1) != (1#32 <<< t_6.toNat))) then
  some false
  else
  nx8 ())

def order_Free (up_0 : List (BitVec 32)) (s_1 : (BitVec 32)) : Option (Bool) :=
  forK (σ := Unit) (fun i s nx_ => order_Free_b7 up_0 s_1 i nx_) (fun _ => order_Free_k3) ((up_0.length : Int) - (0 : Int)).toNat (0 : Int) ()

set_option maxRecDepth 100000 in
theorem order_Free_ok (w0 : World) (m : Snap) (l : List HI) (uup_0 : Value) (up_0 : List (BitVec 32)) (hup_0 : RS rU m uup_0 up_0) (s_1 : (BitVec 32)) (r : Bool) (hr : order_Free up_0 s_1 = some r) (w : World) (hc : cX w0 ⟨m, l⟩ w) :
    Calls Try.prog 44 [uup_0, .int .u32 (s_1.toNat : Int)].toArray w fun e w' => e = .returned (.bool r) ∧ cX w0 ⟨m, l⟩ w' := by
  unfold order_Free at hr
  refine calls_of_Tr (N := 28) Try.func44 rfl hc rfl (Nat.le_of_ble_eq_true rfl) ?_
  refine Tr.seq ?_
  refine Tr.region_f (fun _ => false) ?_
  refine W.q rfl rfl rfl rfl (by decide) (Yd.as rfl .c) ?_
  refine W.end ?_
  refine NX.sub (env' := [(0, _), (1, _)]) ⟨rfl, rfl, trivial⟩ ?_
  refine NX.then ?_
  refine Tr.seq ?_
  refine Tr.seq ?_
  refine Tr.region_f (fun _ => false) ?_
  refine W.q rfl rfl rfl rfl (by decide) (Yd.mv rfl (.t rfl)) ?_
  refine W.q rfl rfl rfl rfl (by decide) (Yd.lenR hup_0 rfl Try.underlying23 (.t rfl)) ?_
  refine W.q rfl rfl rfl rfl (by decide) (Yd.mv rfl .c) ?_
  refine W.end ?_
  refine NX.sub (env' := [(1, _), (7, _), (8, _), (9, _)]) ⟨rfl, rfl, rfl, rfl, trivial⟩ ?_
  refine NX.then ?_
  refine Tr.join (S := fun env x => env = [] ∧ x = ⟨m, l⟩ ∧ order_Free_k3 = some r) ?_ (fun hk4 => ?_)
  · rintro _ _ ⟨rfl, rfl, hr⟩
    unfold order_Free_k3 at hr
    try dsimp only at hr
    refine NX.then ?_
    refine Tr.seq ?_
    refine Tr.region_f (fun _ => false) ?_
    refine W.q rfl rfl rfl rfl (by decide) (Yd.as rfl .c) ?_
    refine W.end ?_
    refine NX.sub (env' := [(4, _)]) ⟨rfl, trivial⟩ ?_
    refine NX.then ?_
    refine Tr.ret' ?_
    refine res1 rfl rfl ?_
    intro w hc
    cases hr
    exact ⟨rfl, hc⟩
  have hlen5 := (hup_0).2.1
  refine Tr.block ?_
  refine Tr.sub (env' := [(1, _), (7, _), (8, _), (9, _)]) ⟨rfl, rfl, rfl, rfl, trivial⟩ ?_
  refine Tr.loop (S := fun n (z : Int × Unit) env x => match z with | (t_6, _) => env = [(1, .int .u32 (s_1.toNat : Int)), (7, uup_0), (8, .int .i64 ((up_0.length : Int))), (9, .int .i64 t_6)] ∧ x = ⟨m, l⟩ ∧ n = ((up_0.length : Int) - t_6).toNat ∧ 0 ≤ t_6 ∧ forK (σ := Unit) (fun i s nx_ => order_Free_b7 up_0 s_1 i nx_) (fun _ => order_Free_k3) n t_6 () = some r) _ ((0 : Int), ()) ⟨rfl, rfl, rfl, (by omega), hr⟩ ?_
  rintro n9 ⟨t_6, _⟩ env x ⟨rfl, rfl, hnt_6, h0t_6, hr⟩
  cases n9 with
  | zero =>
    simp only [forK] at hr
    refine Tr.seq ?_
    refine Tr.region_f (fun _ => false) ?_
    refine W.q rfl rfl rfl rfl (by decide) (Yd.lss rfl (.t rfl) (.t rfl)) ?_
    refine W.end ?_
    refine NX.sub (env' := [(1, _), (7, _), (8, _), (9, _), (10, _)]) ⟨rfl, rfl, rfl, rfl, rfl, trivial⟩ ?_
    refine NX.then ?_
    refine Tr.seq ?_
    refine Tr.cond (.t rfl) (fun hb => ?_) (fun hb => ?_)
    · exact absurd (hb.symm.trans (fr_end hnt_6)) (by decide)
    ·
      refine Tr.exit' (EX.then (EX.then (EX.block ?_)))
      refine NX.sub (env' := []) trivial ?_
      exact hk4 _ _ ⟨rfl, rfl, hr⟩
  | succ n9 =>
    obtain ⟨nx8, hnx8, hr⟩ := forK_succ hr
    try dsimp only at hr
    unfold order_Free_b7 at hr
    try dsimp only at hr
    have hltt_6 := fr_bnd hnt_6
    refine Tr.seq ?_
    refine Tr.region_f (fun _ => false) ?_
    refine W.q rfl rfl rfl rfl (by decide) (Yd.lss rfl (.t rfl) (.t rfl)) ?_
    refine W.end ?_
    refine NX.sub (env' := [(1, _), (7, _), (8, _), (9, _), (10, _)]) ⟨rfl, rfl, rfl, rfl, rfl, trivial⟩ ?_
    refine NX.then ?_
    refine Tr.seq ?_
    refine Tr.cond (.t rfl) (fun hb => ?_) (fun hb => ?_)
    rotate_left
    · exact absurd (hb.symm.trans (fr_go hnt_6)) (by decide)
    ·
      refine Tr.skip' ?_
      refine NX.then ?_
      refine Tr.seq ?_
      refine Tr.block ?_
      refine Tr.seq ?_
      obtain ⟨y10, hy11, hr⟩ := bind_some hr
      refine Tr.region_f (fun _ => false) ?_
      refine W.q rfl rfl rfl rfl (by decide) (Yd.mv rfl (.t rfl)) ?_
      refine W.q rfl rfl rfl rfl (by decide) (Yd.idxR hup_0 hy11 rfl Try.underlying23 SZ29 (.t rfl) (.t rfl)) ?_
      refine W.q rfl rfl rfl rfl (by decide) (Yd.ldF hup_0 (.refl _) hy11 rfl rfl ON29 (.t rfl)) ?_
      refine W.q rfl rfl rfl rfl (by decide) (Yd.as rfl (.t rfl)) ?_
      refine W.q rfl rfl rfl rfl (by decide) (Yd.as rfl (.t rfl)) ?_
      refine W.end ?_
      refine NX.sub (env' := [(1, _), (7, _), (8, _), (9, _), (5, _), (6, _)]) ⟨rfl, rfl, rfl, rfl, rfl, rfl, trivial⟩ ?_
      refine NX.then ?_
      refine Tr.seq ?_
      refine Tr.region_f (fun _ => false) ?_
      refine W.q rfl rfl rfl rfl (by decide) (Yd.mv rfl (.t rfl)) ?_
      refine W.q rfl rfl rfl rfl (by decide) (Yd.mv rfl (.t rfl)) ?_
      refine W.q rfl rfl rfl rfl (by decide) (Yd.shrU (a := s_1) rfl (.t rfl) (.t rfl) h0t_6) ?_
      refine W.q rfl rfl rfl rfl (by decide) (Yd.andU (a := (s_1 >>> t_6.toNat)) (b := 1#32) rfl (.t rfl) .c) ?_
      refine W.q rfl rfl rfl rfl (by decide) (Yd.eqlU (a := ((s_1 >>> t_6.toNat) &&& 1#32)) (b := 1#32) rfl (.t rfl) .c) ?_
      refine W.q rfl rfl rfl rfl (by decide) (Yd.mv rfl (.t rfl)) ?_
      refine W.g rfl rfl rfl rfl rfl (.t rfl _) rfl (by decide) (fun hG => Yd.mv rfl (.t rfl)) ?_
      refine W.g rfl rfl rfl rfl rfl (.t rfl _) rfl (by decide) (fun hG => Yd.mv rfl (.t rfl)) ?_
      refine W.g rfl rfl rfl rfl rfl (.t rfl _) rfl (by decide) (fun hG => Yd.andU (a := y10) (b := s_1) rfl (.g rfl hG) (.g rfl hG)) ?_
      refine W.g rfl rfl rfl rfl rfl (.t rfl _) rfl (by decide) (fun hG => Yd.mv rfl (.t rfl)) ?_
      refine W.g rfl rfl rfl rfl rfl (.t rfl _) rfl (by decide) (fun hG => Yd.shlU (a := 1#32) rfl .c (.g rfl hG) h0t_6) ?_
      refine W.g rfl rfl rfl rfl rfl (.t rfl _) rfl (by decide) (fun hG => Yd.neqU (a := (y10 &&& s_1)) (b := (1#32 <<< t_6.toNat)) rfl (.g rfl hG) (.g rfl hG)) ?_
      refine W.q rfl rfl rfl rfl (by decide) (Yd.and rfl (.t rfl) .c rfl rfl) ?_
      refine W.end ?_
      refine NX.sub (env' := [(1, _), (7, _), (8, _), (9, _), (26, _)]) ⟨rfl, rfl, rfl, rfl, rfl, trivial⟩ ?_
      refine NX.then ?_
      refine Tr.cond (.t rfl) (fun hb => ?_) (fun hb => ?_)
      · have hr := cond_t hb hr
        refine Tr.seq ?_
        refine Tr.region_f (fun _ => false) ?_
        refine W.q rfl rfl rfl rfl (by decide) (Yd.as rfl .c) ?_
        refine W.end ?_
        refine NX.sub (env' := [(4, _)]) ⟨rfl, trivial⟩ ?_
        refine NX.then ?_
        refine Tr.ret' (RT.block (RT.then (RT.then (RT.block (RT.then ?_)))))
        refine res1 rfl rfl ?_
        intro w hc
        cases hr
        exact ⟨rfl, hc⟩
      · have hr := cond_f hb hr
        refine Tr.skip' ?_
        refine NX.block ?_
        refine NX.then ?_
        refine Tr.region_f (fun _ => false) ?_
        refine W.q rfl rfl rfl rfl (by decide) (Yd.add rfl (.t rfl) .c) ?_
        refine W.q rfl rfl rfl rfl (by decide) (Yd.mv rfl (.t rfl)) ?_
        refine W.end ?_
        refine NX.sub (env' := [(1, _), (7, _), (8, _), (9, _)]) ⟨rfl, rfl, rfl, rfl, trivial⟩ ?_
        refine NX.sub (env' := [(1, _), (7, _), (8, _), (9, _)]) ⟨rfl, rfl, rfl, rfl, trivial⟩ ?_
        have hw := w64_id (n := t_6 + 1) (by omega) (by omega)
        exact NX.again n9 (t_6 + 1, ()) (Nat.lt_succ_self _) ⟨(by rw [hw] <;> rfl), rfl, (fr_dec hnt_6), (by omega), ((hnx8 _).symm.trans hr)⟩

def math_bits_OnesCount32 (x_0 : (BitVec 32)) : Option (Int) :=
  (geti tbl1024256 ((((x_0 >>> 24)).toNat : Int))).bind fun y1 =>
  (geti tbl1024256 (((((x_0 >>> 16) &&& 255#32)).toNat : Int))).bind fun y3 =>
  (geti tbl1024256 (((((x_0 >>> 8) &&& 255#32)).toNat : Int))).bind fun y5 =>
  (geti tbl1024256 ((((x_0 &&& 255#32)).toNat : Int))).bind fun y7 =>
  some ((((((y1 + y3) + y5) + y7)).toNat : Int))

set_option maxRecDepth 100000 in
theorem math_bits_OnesCount32_ok (w0 : World) (m : Snap) (l : List HI) (x_0 : (BitVec 32)) (r : Int) (hr : math_bits_OnesCount32 x_0 = some r) (w : World) (hc : cX w0 ⟨m, l⟩ w) :
    Calls Try.prog 45 [.int .u32 (x_0.toNat : Int)].toArray w fun e w' => e = .returned (.int .i64 r) ∧ cX w0 ⟨m, l⟩ w' := by
  unfold math_bits_OnesCount32 at hr
  refine calls_of_Tr (N := 21) Try.func45 rfl hc rfl (Nat.le_of_ble_eq_true rfl) ?_
  refine Tr.seq ?_
  refine Tr.region_f (fun _ => false) ?_
  refine W.q rfl rfl rfl rfl (by decide) (Yd.as rfl .c) ?_
  refine W.end ?_
  refine NX.sub (env' := [(0, _)]) ⟨rfl, trivial⟩ ?_
  refine NX.then ?_
  refine Tr.seq ?_
  obtain ⟨y1, hy2, hr⟩ := bind_some hr
  obtain ⟨y3, hy4, hr⟩ := bind_some hr
  obtain ⟨y5, hy6, hr⟩ := bind_some hr
  obtain ⟨y7, hy8, hr⟩ := bind_some hr
  refine Tr.region_x (fun _ => false) (fun _ => false) (Ord.of [0, 1, 2, 3, 4, 5, 6, 7, 8, 9, 10, 11, 12, 13, 14, 15, 16, 17, 18]) FM (by kernel_rfl) ?_
  refine W.q rfl rfl rfl rfl (by decide) (Yd.mv rfl (.t rfl)) ?_
  refine W.q rfl rfl rfl rfl (by decide) (Yd.shrU (a := x_0) rfl (.t rfl) .c (by decide)) ?_
  refine W.q rfl rfl rfl rfl (by decide) (Yd.ixS rfl Try.underlying9 .c (tb := tbl1024256) (by kernel_rfl) (.t rfl) hy2) ?_
  refine W.q rfl rfl rfl rfl (by decide) (Yd.mv rfl (.t rfl)) ?_
  refine W.q rfl rfl rfl rfl (by decide) (Yd.shrU (a := x_0) rfl (.t rfl) .c (by decide)) ?_
  refine W.q rfl rfl rfl rfl (by decide) (Yd.andU (a := (x_0 >>> 16)) (b := 255#32) rfl (.t rfl) .c) ?_
  refine W.q rfl rfl rfl rfl (by decide) (Yd.ixS rfl Try.underlying9 .c (tb := tbl1024256) (by kernel_rfl) (.t rfl) hy4) ?_
  refine W.q rfl rfl rfl rfl (by decide) (Yd.addY (a := y1) (b := y3) rfl (.t rfl) (.t rfl)) ?_
  refine W.q rfl rfl rfl rfl (by decide) (Yd.mv rfl (.t rfl)) ?_
  refine W.q rfl rfl rfl rfl (by decide) (Yd.shrU (a := x_0) rfl (.t rfl) .c (by decide)) ?_
  refine W.q rfl rfl rfl rfl (by decide) (Yd.andU (a := (x_0 >>> 8)) (b := 255#32) rfl (.t rfl) .c) ?_
  refine W.q rfl rfl rfl rfl (by decide) (Yd.ixS rfl Try.underlying9 .c (tb := tbl1024256) (by kernel_rfl) (.t rfl) hy6) ?_
  refine W.q rfl rfl rfl rfl (by decide) (Yd.addY (a := (y1 + y3)) (b := y5) rfl (.t rfl) (.t rfl)) ?_
  refine W.q rfl rfl rfl rfl (by decide) (Yd.mv rfl (.t rfl)) ?_
  refine W.q rfl rfl rfl rfl (by decide) (Yd.andU (a := x_0) (b := 255#32) rfl (.t rfl) .c) ?_
  refine W.q rfl rfl rfl rfl (by decide) (Yd.ixS rfl Try.underlying9 .c (tb := tbl1024256) (by kernel_rfl) (.t rfl) hy8) ?_
  refine W.q rfl rfl rfl rfl (by decide) (Yd.addY (a := ((y1 + y3) + y5)) (b := y7) rfl (.t rfl) (.t rfl)) ?_
  refine W.q rfl rfl rfl rfl (by decide) (Yd.cvBI (a := (((y1 + y3) + y5) + y7)) rfl US5 Try.underlying3 (.t rfl)) ?_
  refine W.q rfl rfl rfl rfl (by decide) (Yd.as rfl (.t rfl)) ?_
  refine W.end ?_
  refine NX.sub (env' := [(2, _)]) ⟨rfl, trivial⟩ ?_
  refine NX.then ?_
  refine Tr.ret' ?_
  refine res1 rfl rfl ?_
  intro w hc
  cases hr
  exact ⟨rfl, hc⟩

def order_Apart_k11 (best_10 : BitVec 32) : Option ((BitVec 32) × Int) :=
  some ((best_10, (0 : Int)))

def order_Apart_b14 (r1 : (List (BitVec 32)) × Int) (t_13 : BitVec 32) (best_8 : BitVec 32) (nx15 : (BitVec 32) → Option ((BitVec 32) × Int)) : Option ((BitVec 32) × Int) :=
  (order_Free r1.1 t_13).bind fun r17 =>
  bif (!(r17 == true) || (math_bits_OnesCount32 t_13).isSome) then
  bif (!(r17 == true) || (math_bits_OnesCount32 best_8).isSome) then
  (bif (r17 && (decide ((((math_bits_OnesCount32 t_13).getD (0 : Int))) > (((math_bits_OnesCount32 best_8).getD (0 : Int)))))) then
  nx15 t_13
  else
  nx15 best_8) else none else none

def order_Apart (n_0 : Int) (pairs_1 : List (Int × Int)) : Option ((BitVec 32) × Int) :=
  (order_Table n_0 pairs_1).bind fun r1 =>
  (bif (r1.2 != (0 : Int)) then
  some ((0#32, r1.2))
  else
  bif decide (0 ≤ n_0) then
  forK (σ := (BitVec 32)) (fun i s nx_ => order_Apart_b14 r1 i s nx_) (fun s => order_Apart_k11 s) (((1#32 <<< n_0.toNat)).toNat - (0#32).toNat) 0#32 (0#32) else none)

set_option maxRecDepth 100000 in
theorem order_Apart_ok (w0 : World) (m : Snap) (l : List HI) (n_0 : Int) (upairs_1 : Value) (pairs_1 : List (Int × Int)) (hpairs_1 : RS rP m upairs_1 pairs_1) (r : (BitVec 32) × Int) (hr : order_Apart n_0 pairs_1 = some r) (w : World) (hc : cX w0 ⟨m, l⟩ w) :
    Calls Try.prog 25 [.int .i64 n_0, upairs_1].toArray w fun e w' => e = .returned (.tuple #[.int .u32 (r.1.toNat : Int), .int .i64 r.2]) ∧ cX w0 ⟨m, l⟩ w' := by
  unfold order_Apart at hr
  refine calls_of_Tr (N := 37) Try.func25 rfl hc rfl (Nat.le_of_ble_eq_true rfl) ?_
  refine Tr.seq ?_
  refine Tr.region_f (fun _ => false) ?_
  refine W.q rfl rfl rfl rfl (by decide) (Yd.as rfl .c) ?_
  refine W.q rfl rfl rfl rfl (by decide) (Yd.as rfl .c) ?_
  refine W.end ?_
  refine NX.sub (env' := [(0, _), (1, _)]) ⟨rfl, rfl, trivial⟩ ?_
  refine NX.then ?_
  refine Tr.seq ?_
  obtain ⟨r1, hr2, hr⟩ := bind_some hr
  refine Tr.region_f (fun i => Nat.beq i 2) ?_
  refine W.q rfl rfl rfl rfl (by decide) (Yd.mv rfl (.t rfl)) ?_
  refine W.q rfl rfl rfl rfl (by decide) (Yd.mv rfl (.t rfl)) ?_
  refine W.e rfl rfl rfl rfl (by decide) (Ef.call (R := fun z x' => ∃ v3 : Value, z = .tuple #[v3, .int .i64 r1.2] ∧ x' = ⟨m, hownT 29 1 encU v3 r1.1 :: l⟩) rfl Try.func15 rfl rfl (.cons (.t rfl) (.cons (.t rfl) .nil)) (fun w hw => (order_Table_ok w0 _ _ n_0 _ _ hpairs_1 _ hr2 w hw).mono fun e w' ⟨v3, he, hc'⟩ => ⟨_, _, he, ⟨v3, rfl, rfl⟩, hc'⟩)) ?_
  rintro _ _ ⟨v3, rfl, rfl⟩
  refine ⟨.inl rfl, ?_⟩
  refine W.cast (m' := m) (l' := hownT 29 1 encU v3 _ :: l) rfl rfl ?_
  refine W.q rfl rfl rfl rfl (by decide) (Yd.mv rfl (.t rfl)) ?_
  refine W.q rfl rfl rfl rfl (by decide) (Yd.ext rfl (.t rfl) rfl) ?_
  refine W.q rfl rfl rfl rfl (by decide) (Yd.ext rfl (.t rfl) rfl) ?_
  refine W.q rfl rfl rfl rfl (by decide) (Yd.as rfl (.t rfl)) ?_
  refine W.q rfl rfl rfl rfl (by decide) (Yd.as rfl (.t rfl)) ?_
  refine W.end ?_
  refine NX.sub (env' := [(0, _), (6, _), (7, _)]) ⟨rfl, rfl, rfl, trivial⟩ ?_
  refine NX.then ?_
  refine Tr.seq ?_
  refine Tr.seq ?_
  refine Tr.region_f (fun _ => false) ?_
  refine W.q rfl rfl rfl rfl (by decide) (Yd.mv rfl (.t rfl)) ?_
  refine W.q rfl rfl rfl rfl (by decide) (Yd.neq rfl (.t rfl) .c) ?_
  refine W.end ?_
  refine NX.sub (env' := [(0, _), (6, _), (7, _), (17, _)]) ⟨rfl, rfl, rfl, rfl, trivial⟩ ?_
  refine NX.then ?_
  refine Tr.cond (.t rfl) (fun hb => ?_) (fun hb => ?_)
  · have hr := cond_t hb hr
    refine Tr.seq ?_
    refine Tr.region_f (fun _ => false) ?_
    refine W.q rfl rfl rfl rfl (by decide) (Yd.mv rfl (.t rfl)) ?_
    refine W.q rfl rfl rfl rfl (by decide) (Yd.as rfl .c) ?_
    refine W.q rfl rfl rfl rfl (by decide) (Yd.as rfl (.t rfl)) ?_
    refine W.end ?_
    refine NX.sub (env' := [(4, _), (5, _)]) ⟨rfl, rfl, trivial⟩ ?_
    refine NX.drop (l' := l) (.cons _ (.refl _)) ?_
    refine NX.then ?_
    refine Tr.ret' (RT.then ?_)
    refine res2 rfl rfl rfl ?_
    intro w hc
    cases hr
    exact ⟨rfl, hc⟩
  · have hr := cond_f hb hr
    refine Tr.skip' ?_
    refine NX.then ?_
    refine Tr.seq ?_
    refine Tr.region_f (fun _ => false) ?_
    refine W.q rfl rfl rfl rfl (by decide) (Yd.as rfl .c) ?_
    refine W.end ?_
    refine NX.sub (env' := [(0, _), (6, _), (8, _)]) ⟨rfl, rfl, rfl, trivial⟩ ?_
    refine NX.then ?_
    refine Tr.seq ?_
    refine Tr.seq ?_
    obtain ⟨hq5, hr⟩ := guard_some hr; replace hq5 := of_decide_eq_true hq5
    refine Tr.region_f (fun _ => false) ?_
    refine W.q rfl rfl rfl rfl (by decide) (Yd.mv rfl (.t rfl)) ?_
    refine W.q rfl rfl rfl rfl (by decide) (Yd.shlU (a := 1#32) rfl .c (.t rfl) hq5) ?_
    refine W.q rfl rfl rfl rfl (by decide) (Yd.mv rfl .c) ?_
    refine W.end ?_
    refine NX.sub (env' := [(6, _), (8, _), (20, _), (21, _)]) ⟨rfl, rfl, rfl, rfl, trivial⟩ ?_
    refine NX.then ?_
    refine Tr.join (S := fun env x => ∃ best_10 : BitVec 32, env = [(8, .int .u32 (best_10.toNat : Int))] ∧ x = ⟨m, l⟩ ∧ order_Apart_k11 best_10 = some r) ?_ (fun hk12 => ?_)
    · rintro _ _ ⟨best_10, rfl, rfl, hr⟩
      unfold order_Apart_k11 at hr
      try dsimp only at hr
      refine NX.then ?_
      refine Tr.seq ?_
      refine Tr.region_f (fun _ => false) ?_
      refine W.q rfl rfl rfl rfl (by decide) (Yd.mv rfl (.t rfl)) ?_
      refine W.q rfl rfl rfl rfl (by decide) (Yd.as rfl (.t rfl)) ?_
      refine W.q rfl rfl rfl rfl (by decide) (Yd.as rfl .c) ?_
      refine W.end ?_
      refine NX.sub (env' := [(4, _), (5, _)]) ⟨rfl, rfl, trivial⟩ ?_
      refine NX.then ?_
      refine Tr.ret' ?_
      refine res2 rfl rfl rfl ?_
      intro w hc
      cases hr
      exact ⟨rfl, hc⟩
    refine Tr.block ?_
    refine Tr.sub (env' := [(6, _), (8, _), (20, _), (21, _)]) ⟨rfl, rfl, rfl, rfl, trivial⟩ ?_
    refine Tr.loop (S := fun n (z : BitVec 32 × (BitVec 32)) env x => match z with | (t_13, best_8) => env = [(6, v3), (8, .int .u32 (best_8.toNat : Int)), (20, .int .u32 (((1#32 <<< n_0.toNat)).toNat : Int)), (21, .int .u32 (t_13.toNat : Int))] ∧ x = ⟨m, hownT 29 1 encU v3 r1.1 :: l⟩ ∧ n = ((1#32 <<< n_0.toNat)).toNat - t_13.toNat ∧ forK (σ := (BitVec 32)) (fun i s nx_ => order_Apart_b14 r1 i s nx_) (fun s => order_Apart_k11 s) n t_13 best_8 = some r) _ (0#32, 0#32) ⟨rfl, rfl, rfl, hr⟩ ?_
    rintro n16 ⟨t_13, best_8⟩ env x ⟨rfl, rfl, hnt_13, hr⟩
    cases n16 with
    | zero =>
      simp only [forK] at hr
      refine Tr.seq ?_
      refine Tr.region_f (fun _ => false) ?_
      refine W.q rfl rfl rfl rfl (by decide) (Yd.lssU (a := t_13) (b := (1#32 <<< n_0.toNat)) rfl (.t rfl) (.t rfl)) ?_
      refine W.end ?_
      refine NX.sub (env' := [(6, _), (8, _), (20, _), (21, _), (22, _)]) ⟨rfl, rfl, rfl, rfl, rfl, trivial⟩ ?_
      refine NX.then ?_
      refine Tr.seq ?_
      refine Tr.cond (.t rfl) (fun hb => ?_) (fun hb => ?_)
      · exact absurd (hb.symm.trans (fu_end hnt_13)) (by decide)
      ·
        refine Tr.exit' (EX.then (EX.then (EX.block ?_)))
        refine NX.sub (env' := [(8, _)]) ⟨rfl, trivial⟩ ?_
        refine NX.drop (l' := l) (.cons _ (.refl _)) ?_
        exact hk12 _ _ ⟨_, rfl, rfl, hr⟩
    | succ n16 =>
      obtain ⟨nx15, hnx15, hr⟩ := forK_succ hr
      try dsimp only at hr
      unfold order_Apart_b14 at hr
      try dsimp only at hr
      refine Tr.seq ?_
      refine Tr.region_f (fun _ => false) ?_
      refine W.q rfl rfl rfl rfl (by decide) (Yd.lssU (a := t_13) (b := (1#32 <<< n_0.toNat)) rfl (.t rfl) (.t rfl)) ?_
      refine W.end ?_
      refine NX.sub (env' := [(6, _), (8, _), (20, _), (21, _), (22, _)]) ⟨rfl, rfl, rfl, rfl, rfl, trivial⟩ ?_
      refine NX.then ?_
      refine Tr.seq ?_
      refine Tr.cond (.t rfl) (fun hb => ?_) (fun hb => ?_)
      rotate_left
      · exact absurd (hb.symm.trans (fu_go hnt_13)) (by decide)
      ·
        refine Tr.skip' ?_
        refine NX.then ?_
        refine Tr.seq ?_
        refine Tr.block ?_
        refine Tr.seq ?_
        refine Tr.region_f (fun _ => false) ?_
        refine W.q rfl rfl rfl rfl (by decide) (Yd.mv rfl (.t rfl)) ?_
        refine W.q rfl rfl rfl rfl (by decide) (Yd.as rfl (.t rfl)) ?_
        refine W.end ?_
        refine NX.sub (env' := [(6, _), (8, _), (20, _), (21, _), (9, _)]) ⟨rfl, rfl, rfl, rfl, rfl, trivial⟩ ?_
        refine NX.then ?_
        refine Tr.seq ?_
        obtain ⟨r17, hr18, hr⟩ := bind_some hr
        obtain ⟨ha19, hr⟩ := guard_some hr
        obtain ⟨ha20, hr⟩ := guard_some hr
        refine Tr.region_f (fun _ => false) ?_
        refine W.q rfl rfl rfl rfl (by decide) (Yd.mv rfl (.t rfl)) ?_
        refine W.q rfl rfl rfl rfl (by decide) (Yd.mv rfl (.t rfl)) ?_
        refine W.q rfl rfl rfl rfl (by decide) (Yd.call (v := .bool r17) rfl Try.func44 rfl rfl (.cons (.t rfl) (.cons (.t rfl) .nil)) (by intro x' hx w hw; obtain ⟨p0, hp0⟩ := hx.at (p := 0) rfl; obtain ⟨m2, hm2, hc2, ⟨L2, hl1, hl2⟩, hback⟩ := cX_lend hw hp0 lone_own; have hL1 : RS rU m2 _ _ := RS_of_own hl1 hl2; exact (order_Free_ok w0 m2 _ _ _ hL1 t_13 _ hr18 w hc2).mono fun e w' ⟨he, hc'⟩ => ⟨he, (hback m2 _ _ w' (.refl _) hp0).2 hc'⟩)) ?_
        refine W.q rfl rfl rfl rfl (by decide) (Yd.mv rfl (.t rfl)) ?_
        refine W.g rfl rfl rfl rfl rfl (.t rfl _) rfl (by decide) (fun hG => Yd.mv rfl (.t rfl)) ?_
        refine W.g rfl rfl rfl rfl rfl (.t rfl _) rfl (by decide) (fun hG => Yd.call (v := .int .i64 ((((math_bits_OnesCount32 t_13).getD (0 : Int))))) rfl Try.func45 rfl rfl (.cons (.g rfl hG) .nil) (fun x' hx w hw => math_bits_OnesCount32_ok w0 x'.m x'.l t_13 _ (gd_get (d := (0 : Int)) ha19 hG) w hw)) ?_
        refine W.g rfl rfl rfl rfl rfl (.t rfl _) rfl (by decide) (fun hG => Yd.mv rfl (.t rfl)) ?_
        refine W.g rfl rfl rfl rfl rfl (.t rfl _) rfl (by decide) (fun hG => Yd.call (v := .int .i64 ((((math_bits_OnesCount32 best_8).getD (0 : Int))))) rfl Try.func45 rfl rfl (.cons (.g rfl hG) .nil) (fun x' hx w hw => math_bits_OnesCount32_ok w0 x'.m x'.l best_8 _ (gd_get (d := (0 : Int)) ha20 hG) w hw)) ?_
        refine W.g rfl rfl rfl rfl rfl (.t rfl _) rfl (by decide) (fun hG => Yd.gtr rfl (.g rfl hG) (.g rfl hG)) ?_
        refine W.q rfl rfl rfl rfl (by decide) (Yd.and rfl (.t rfl) .c rfl rfl) ?_
        refine W.end ?_
        refine NX.sub (env' := [(6, _), (8, _), (20, _), (21, _), (9, _), (33, _)]) ⟨rfl, rfl, rfl, rfl, rfl, rfl, trivial⟩ ?_
        refine NX.then ?_
        refine Tr.cond (.t rfl) (fun hb => ?_) (fun hb => ?_)
        · have hr := cond_t hb hr
          refine Tr.region_f (fun _ => false) ?_
          refine W.q rfl rfl rfl rfl (by decide) (Yd.mv rfl (.t rfl)) ?_
          refine W.q rfl rfl rfl rfl (by decide) (Yd.as rfl (.t rfl)) ?_
          refine W.end ?_
          refine NX.sub (env' := [(6, _), (8, _), (20, _), (21, _)]) ⟨rfl, rfl, rfl, rfl, trivial⟩ ?_
          refine NX.block ?_
          refine NX.then ?_
          refine Tr.region_f (fun _ => false) ?_
          refine W.q rfl rfl rfl rfl (by decide) (Yd.addU (a := t_13) (b := 1#32) rfl (.t rfl) .c) ?_
          refine W.q rfl rfl rfl rfl (by decide) (Yd.mv rfl (.t rfl)) ?_
          refine W.end ?_
          refine NX.sub (env' := [(6, _), (8, _), (20, _), (21, _)]) ⟨rfl, rfl, rfl, rfl, trivial⟩ ?_
          refine NX.sub (env' := [(6, _), (8, _), (20, _), (21, _)]) ⟨rfl, rfl, rfl, rfl, trivial⟩ ?_
          exact NX.again n16 (t_13 + 1, t_13) (Nat.lt_succ_self _) ⟨rfl, rfl, (fu_dec hnt_13), ((hnx15 _).symm.trans hr)⟩
        · have hr := cond_f hb hr
          refine Tr.skip' ?_
          refine NX.block ?_
          refine NX.then ?_
          refine Tr.region_f (fun _ => false) ?_
          refine W.q rfl rfl rfl rfl (by decide) (Yd.addU (a := t_13) (b := 1#32) rfl (.t rfl) .c) ?_
          refine W.q rfl rfl rfl rfl (by decide) (Yd.mv rfl (.t rfl)) ?_
          refine W.end ?_
          refine NX.sub (env' := [(6, _), (8, _), (20, _), (21, _)]) ⟨rfl, rfl, rfl, rfl, trivial⟩ ?_
          refine NX.sub (env' := [(6, _), (8, _), (20, _), (21, _)]) ⟨rfl, rfl, rfl, rfl, trivial⟩ ?_
          exact NX.again n16 (t_13 + 1, best_8) (Nat.lt_succ_self _) ⟨rfl, rfl, (fu_dec hnt_13), ((hnx15 _).symm.trans hr)⟩

def syllogistref_Bit (w_0 : (BitVec 32)) (i_1 : Int) : Option (Bool) :=
  some ((((decide (i_1 ≥ (0 : Int))) && (decide (i_1 < (32 : Int)))) && ((w_0 &&& (1#32 <<< ((BitVec.ofInt 64 i_1)).toNat)) != 0#32)))

set_option maxRecDepth 100000 in
theorem syllogistref_Bit_ok (w0 : World) (m : Snap) (l : List HI) (w_0 : (BitVec 32)) (i_1 : Int) (r : Bool) (hr : syllogistref_Bit w_0 i_1 = some r) (w : World) (hc : cX w0 ⟨m, l⟩ w) :
    Calls Try.prog 17 [.int .u32 (w_0.toNat : Int), .int .i64 i_1].toArray w fun e w' => e = .returned (.bool r) ∧ cX w0 ⟨m, l⟩ w' := by
  unfold syllogistref_Bit at hr
  refine calls_of_Tr (N := 19) Try.func17 rfl hc rfl (Nat.le_of_ble_eq_true rfl) ?_
  refine Tr.seq ?_
  refine Tr.region_f (fun _ => false) ?_
  refine W.q rfl rfl rfl rfl (by decide) (Yd.as rfl .c) ?_
  refine W.end ?_
  refine NX.sub (env' := [(0, _), (1, _)]) ⟨rfl, rfl, trivial⟩ ?_
  refine NX.then ?_
  refine Tr.seq ?_
  refine Tr.region_f (fun _ => false) ?_
  refine W.q rfl rfl rfl rfl (by decide) (Yd.mv rfl (.t rfl)) ?_
  refine W.q rfl rfl rfl rfl (by decide) (Yd.geq rfl (.t rfl) .c) ?_
  refine W.q rfl rfl rfl rfl (by decide) (Yd.mv rfl (.t rfl)) ?_
  refine W.g rfl rfl rfl rfl rfl (.t rfl _) rfl (by decide) (fun hG => Yd.mv rfl (.t rfl)) ?_
  refine W.g rfl rfl rfl rfl rfl (.t rfl _) rfl (by decide) (fun hG => Yd.lss rfl (.g rfl hG) .c) ?_
  refine W.q rfl rfl rfl rfl (by decide) (Yd.and rfl (.t rfl) .c rfl rfl) ?_
  refine W.q rfl rfl rfl rfl (by decide) (Yd.mv rfl (.t rfl)) ?_
  refine W.g rfl rfl rfl rfl rfl (.t rfl _) rfl (by decide) (fun hG => Yd.mv rfl (.t rfl)) ?_
  refine W.g rfl rfl rfl rfl rfl (.t rfl _) rfl (by decide) (fun hG => Yd.mv rfl (.t rfl)) ?_
  refine W.g rfl rfl rfl rfl rfl (.t rfl _) rfl (by decide) (fun hG => Yd.cvQ rfl US3 Try.underlying55 (.g rfl hG)) ?_
  refine W.g rfl rfl rfl rfl rfl (.t rfl _) rfl (by decide) (fun hG => Yd.shlU (a := 1#32) rfl .c (.g rfl hG) (Int.natCast_nonneg _)) ?_
  refine W.g rfl rfl rfl rfl rfl (.t rfl _) rfl (by decide) (fun hG => Yd.andU (a := w_0) (b := (1#32 <<< ((BitVec.ofInt 64 i_1)).toNat)) rfl (.g rfl hG) (.g rfl hG)) ?_
  refine W.g rfl rfl rfl rfl rfl (.t rfl _) rfl (by decide) (fun hG => Yd.neqU (a := (w_0 &&& (1#32 <<< ((BitVec.ofInt 64 i_1)).toNat))) (b := 0#32) rfl (.g rfl hG) .c) ?_
  refine W.q rfl rfl rfl rfl (by decide) (Yd.and rfl (.t rfl) .c rfl rfl) ?_
  refine W.q rfl rfl rfl rfl (by decide) (Yd.as rfl (.t rfl)) ?_
  refine W.end ?_
  refine NX.sub (env' := [(4, _)]) ⟨rfl, trivial⟩ ?_
  refine NX.then ?_
  refine Tr.ret' ?_
  refine res1 rfl rfl ?_
  intro w hc
  cases hr
  exact ⟨rfl, hc⟩

def syllogistref_Size_k6 (n_5 : Int) : Option (Int) :=
  some n_5

def syllogistref_Size_b9 (w_0 : (BitVec 32)) (i_8 : Int) (n_3 : Int) (nx10 : Int → Option (Int)) : Option (Int) :=
  (syllogistref_Bit w_0 i_8).bind fun r12 =>
  (bif r12 then
  nx10 (w64 (n_3 + (1 : Int)))
  else
  nx10 n_3)

def syllogistref_Size (w_0 : (BitVec 32)) : Option (Int) :=
  forK (σ := Int) (fun i s nx_ => syllogistref_Size_b9 w_0 i s nx_) (fun s => syllogistref_Size_k6 s) ((32 : Int) - (0 : Int)).toNat (0 : Int) ((0 : Int))

set_option maxRecDepth 100000 in
theorem syllogistref_Size_ok (w0 : World) (m : Snap) (l : List HI) (w_0 : (BitVec 32)) (r : Int) (hr : syllogistref_Size w_0 = some r) (w : World) (hc : cX w0 ⟨m, l⟩ w) :
    Calls Try.prog 31 [.int .u32 (w_0.toNat : Int)].toArray w fun e w' => e = .returned (.int .i64 r) ∧ cX w0 ⟨m, l⟩ w' := by
  unfold syllogistref_Size at hr
  refine calls_of_Tr (N := 15) Try.func31 rfl hc rfl (Nat.le_of_ble_eq_true rfl) ?_
  refine Tr.seq ?_
  refine Tr.region_f (fun _ => false) ?_
  refine W.q rfl rfl rfl rfl (by decide) (Yd.as rfl .c) ?_
  refine W.end ?_
  refine NX.sub (env' := [(0, _)]) ⟨rfl, trivial⟩ ?_
  refine NX.then ?_
  refine Tr.seq ?_
  refine Tr.region_f (fun _ => false) ?_
  refine W.q rfl rfl rfl rfl (by decide) (Yd.as rfl .c) ?_
  refine W.end ?_
  refine NX.sub (env' := [(0, _), (3, _)]) ⟨rfl, rfl, trivial⟩ ?_
  refine NX.then ?_
  refine Tr.seq ?_
  refine Tr.seq ?_
  refine Tr.region_f (fun _ => false) ?_
  refine W.q rfl rfl rfl rfl (by decide) (Yd.as rfl .c) ?_
  refine W.end ?_
  refine NX.sub (env' := [(0, _), (3, _), (4, _)]) ⟨rfl, rfl, rfl, trivial⟩ ?_
  refine NX.then ?_
  refine Tr.join (S := fun env x => ∃ n_5 : Int, env = [(3, .int .i64 n_5)] ∧ x = ⟨m, l⟩ ∧ syllogistref_Size_k6 n_5 = some r) ?_ (fun hk7 => ?_)
  · rintro _ _ ⟨n_5, rfl, rfl, hr⟩
    unfold syllogistref_Size_k6 at hr
    try dsimp only at hr
    refine NX.then ?_
    refine Tr.seq ?_
    refine Tr.region_f (fun _ => false) ?_
    refine W.q rfl rfl rfl rfl (by decide) (Yd.mv rfl (.t rfl)) ?_
    refine W.q rfl rfl rfl rfl (by decide) (Yd.as rfl (.t rfl)) ?_
    refine W.end ?_
    refine NX.sub (env' := [(2, _)]) ⟨rfl, trivial⟩ ?_
    refine NX.then ?_
    refine Tr.ret' ?_
    refine res1 rfl rfl ?_
    intro w hc
    cases hr
    exact ⟨rfl, hc⟩
  refine Tr.block ?_
  refine Tr.sub (env' := [(0, _), (3, _), (4, _)]) ⟨rfl, rfl, rfl, trivial⟩ ?_
  refine Tr.loop (S := fun n (z : Int × Int) env x => match z with | (i_8, n_3) => env = [(0, .int .u32 (w_0.toNat : Int)), (3, .int .i64 n_3), (4, .int .i64 i_8)] ∧ x = ⟨m, l⟩ ∧ n = ((32 : Int) - i_8).toNat ∧ 0 ≤ i_8 ∧ forK (σ := Int) (fun i s nx_ => syllogistref_Size_b9 w_0 i s nx_) (fun s => syllogistref_Size_k6 s) n i_8 n_3 = some r) _ ((0 : Int), (0 : Int)) ⟨rfl, rfl, rfl, (by omega), hr⟩ ?_
  rintro n11 ⟨i_8, n_3⟩ env x ⟨rfl, rfl, hni_8, h0i_8, hr⟩
  cases n11 with
  | zero =>
    simp only [forK] at hr
    refine Tr.seq ?_
    refine Tr.seq ?_
    refine Tr.region_f (fun _ => false) ?_
    refine W.q rfl rfl rfl rfl (by decide) (Yd.mv rfl (.t rfl)) ?_
    refine W.q rfl rfl rfl rfl (by decide) (Yd.lss rfl (.t rfl) .c) ?_
    refine W.end ?_
    refine NX.sub (env' := [(0, _), (3, _), (4, _), (6, _)]) ⟨rfl, rfl, rfl, rfl, trivial⟩ ?_
    refine NX.then ?_
    refine Tr.cond (.t rfl) (fun hb => ?_) (fun hb => ?_)
    · exact absurd (hb.symm.trans (fr_end hni_8)) (by decide)
    ·
      refine Tr.exit' (EX.then (EX.then (EX.block ?_)))
      refine NX.sub (env' := [(3, _)]) ⟨rfl, trivial⟩ ?_
      exact hk7 _ _ ⟨_, rfl, rfl, hr⟩
  | succ n11 =>
    obtain ⟨nx10, hnx10, hr⟩ := forK_succ hr
    try dsimp only at hr
    unfold syllogistref_Size_b9 at hr
    try dsimp only at hr
    have hlti_8 := fr_bnd hni_8
    refine Tr.seq ?_
    refine Tr.seq ?_
    refine Tr.region_f (fun _ => false) ?_
    refine W.q rfl rfl rfl rfl (by decide) (Yd.mv rfl (.t rfl)) ?_
    refine W.q rfl rfl rfl rfl (by decide) (Yd.lss rfl (.t rfl) .c) ?_
    refine W.end ?_
    refine NX.sub (env' := [(0, _), (3, _), (4, _), (6, _)]) ⟨rfl, rfl, rfl, rfl, trivial⟩ ?_
    refine NX.then ?_
    refine Tr.cond (.t rfl) (fun hb => ?_) (fun hb => ?_)
    rotate_left
    · exact absurd (hb.symm.trans (fr_go hni_8)) (by decide)
    ·
      refine Tr.skip' ?_
      refine NX.then ?_
      refine Tr.seq ?_
      refine Tr.block ?_
      refine Tr.seq ?_
      obtain ⟨r12, hr13, hr⟩ := bind_some hr
      refine Tr.region_f (fun _ => false) ?_
      refine W.q rfl rfl rfl rfl (by decide) (Yd.mv rfl (.t rfl)) ?_
      refine W.q rfl rfl rfl rfl (by decide) (Yd.mv rfl (.t rfl)) ?_
      refine W.q rfl rfl rfl rfl (by decide) (Yd.call (v := .bool r12) rfl Try.func17 rfl rfl (.cons (.t rfl) (.cons (.t rfl) .nil)) (fun x' hx w hw => syllogistref_Bit_ok w0 x'.m x'.l w_0 i_8 _ hr13 w hw)) ?_
      refine W.end ?_
      refine NX.sub (env' := [(0, _), (3, _), (4, _), (11, _)]) ⟨rfl, rfl, rfl, rfl, trivial⟩ ?_
      refine NX.then ?_
      refine Tr.cond (.t rfl) (fun hb => ?_) (fun hb => ?_)
      · have hr := cond_t hb hr
        refine Tr.region_f (fun _ => false) ?_
        refine W.q rfl rfl rfl rfl (by decide) (Yd.mv rfl (.t rfl)) ?_
        refine W.q rfl rfl rfl rfl (by decide) (Yd.add rfl (.t rfl) .c) ?_
        refine W.q rfl rfl rfl rfl (by decide) (Yd.as rfl (.t rfl)) ?_
        refine W.end ?_
        refine NX.sub (env' := [(0, _), (3, _), (4, _)]) ⟨rfl, rfl, rfl, trivial⟩ ?_
        refine NX.block ?_
        refine NX.then ?_
        refine Tr.region_f (fun _ => false) ?_
        refine W.q rfl rfl rfl rfl (by decide) (Yd.mv rfl (.t rfl)) ?_
        refine W.q rfl rfl rfl rfl (by decide) (Yd.add rfl (.t rfl) .c) ?_
        refine W.q rfl rfl rfl rfl (by decide) (Yd.as rfl (.t rfl)) ?_
        refine W.end ?_
        refine NX.sub (env' := [(0, _), (3, _), (4, _)]) ⟨rfl, rfl, rfl, trivial⟩ ?_
        refine NX.sub (env' := [(0, _), (3, _), (4, _)]) ⟨rfl, rfl, rfl, trivial⟩ ?_
        have hw := w64_id (n := i_8 + 1) (by omega) (by omega)
        exact NX.again n11 (i_8 + 1, (w64 (n_3 + (1 : Int)))) (Nat.lt_succ_self _) ⟨(by rw [hw] <;> rfl), rfl, (fr_dec hni_8), (by omega), ((hnx10 _).symm.trans hr)⟩
      · have hr := cond_f hb hr
        refine Tr.skip' ?_
        refine NX.block ?_
        refine NX.then ?_
        refine Tr.region_f (fun _ => false) ?_
        refine W.q rfl rfl rfl rfl (by decide) (Yd.mv rfl (.t rfl)) ?_
        refine W.q rfl rfl rfl rfl (by decide) (Yd.add rfl (.t rfl) .c) ?_
        refine W.q rfl rfl rfl rfl (by decide) (Yd.as rfl (.t rfl)) ?_
        refine W.end ?_
        refine NX.sub (env' := [(0, _), (3, _), (4, _)]) ⟨rfl, rfl, rfl, trivial⟩ ?_
        refine NX.sub (env' := [(0, _), (3, _), (4, _)]) ⟨rfl, rfl, rfl, trivial⟩ ?_
        have hw := w64_id (n := i_8 + 1) (by omega) (by omega)
        exact NX.again n11 (i_8 + 1, n_3) (Nat.lt_succ_self _) ⟨(by rw [hw] <;> rfl), rfl, (fr_dec hni_8), (by omega), ((hnx10 _).symm.trans hr)⟩

def syllogistref_Free_k3 : Option (Bool) :=
  some true

def syllogistref_Free_k12 (nx8 : (Unit → Option (Bool))) : Option (Bool) :=
  nx8 ()

def syllogistref_Free_b16 (n_0 : Int) (pairs_1 : List (Int × Int)) (s_2 : (BitVec 32)) (fuel : Nat) (i_6 : Int) (j_15 : Int) (nx17 : Unit → Option (Bool)) : Option (Bool) :=
  bif (!((i_6 != j_15) == true) || (syllogistref_Bit s_2 i_6).isSome) then
  bif (!(((i_6 != j_15) && (((syllogistref_Bit s_2 i_6).getD false))) == true) || (syllogistref_Bit s_2 j_15).isSome) then
  bif (!((((i_6 != j_15) && (((syllogistref_Bit s_2 i_6).getD false))) && (((syllogistref_Bit s_2 j_15).getD false))) == true) || (syllogistref_Under fuel n_0 pairs_1 i_6 j_15).isSome) then
  (bif ((((i_6 != j_15) && (((syllogistref_Bit s_2 i_6).getD false))) && (((syllogistref_Bit s_2 j_15).getD false))) && (((syllogistref_Under fuel n_0 pairs_1 i_6 j_15).getD false))) then
  some false
  else
  nx17 ()) else none else none else none

def syllogistref_Free_b7 (n_0 : Int) (pairs_1 : List (Int × Int)) (s_2 : (BitVec 32)) (fuel : Nat) (i_6 : Int) (nx8 : Unit → Option (Bool)) : Option (Bool) :=
  bif decide (n_0 ≤ 9223372036854775807) then
  forK (σ := Unit) (fun i s nx_ => syllogistref_Free_b16 n_0 pairs_1 s_2 fuel i_6 i nx_) (fun _ => syllogistref_Free_k12 nx8) (n_0 - (0 : Int)).toNat (0 : Int) () else none

def syllogistref_Free (fuel : Nat) (n_0 : Int) (pairs_1 : List (Int × Int)) (s_2 : (BitVec 32)) : Option (Bool) :=
  bif decide (n_0 ≤ 9223372036854775807) then
  forK (σ := Unit) (fun i s nx_ => syllogistref_Free_b7 n_0 pairs_1 s_2 fuel i nx_) (fun _ => syllogistref_Free_k3) (n_0 - (0 : Int)).toNat (0 : Int) () else none

set_option maxRecDepth 100000 in
theorem syllogistref_Free_ok (w0 : World) (m : Snap) (l : List HI) (fuel : Nat) (n_0 : Int) (upairs_1 : Value) (pairs_1 : List (Int × Int)) (hpairs_1 : RS rP m upairs_1 pairs_1) (s_2 : (BitVec 32)) (r : Bool) (hr : syllogistref_Free fuel n_0 pairs_1 s_2 = some r) (w : World) (hc : cX w0 ⟨m, l⟩ w) :
    Calls Try.prog 46 [.int .i64 n_0, upairs_1, .int .u32 (s_2.toNat : Int)].toArray w fun e w' => e = .returned (.bool r) ∧ cX w0 ⟨m, l⟩ w' := by
  unfold syllogistref_Free at hr
  refine calls_of_Tr (N := 39) Try.func46 rfl hc rfl (Nat.le_of_ble_eq_true rfl) ?_
  refine Tr.seq ?_
  refine Tr.region_f (fun _ => false) ?_
  refine W.q rfl rfl rfl rfl (by decide) (Yd.as rfl .c) ?_
  refine W.end ?_
  refine NX.sub (env' := [(0, _), (1, _), (2, _)]) ⟨rfl, rfl, rfl, trivial⟩ ?_
  refine NX.then ?_
  refine Tr.seq ?_
  refine Tr.seq ?_
  refine Tr.region_f (fun _ => false) ?_
  refine W.q rfl rfl rfl rfl (by decide) (Yd.as rfl .c) ?_
  refine W.end ?_
  refine NX.sub (env' := [(0, _), (1, _), (2, _), (7, _)]) ⟨rfl, rfl, rfl, rfl, trivial⟩ ?_
  refine NX.then ?_
  refine Tr.join (S := fun env x => env = [] ∧ x = ⟨m, l⟩ ∧ syllogistref_Free_k3 = some r) ?_ (fun hk4 => ?_)
  · rintro _ _ ⟨rfl, rfl, hr⟩
    unfold syllogistref_Free_k3 at hr
    try dsimp only at hr
    refine NX.then ?_
    refine Tr.seq ?_
    refine Tr.region_f (fun _ => false) ?_
    refine W.q rfl rfl rfl rfl (by decide) (Yd.as rfl .c) ?_
    refine W.end ?_
    refine NX.sub (env' := [(6, _)]) ⟨rfl, trivial⟩ ?_
    refine NX.then ?_
    refine Tr.ret' ?_
    refine res1 rfl rfl ?_
    intro w hc
    cases hr
    exact ⟨rfl, hc⟩
  obtain ⟨hle5, hr⟩ := guard_some hr; replace hle5 := of_decide_eq_true hle5
  refine Tr.block ?_
  refine Tr.sub (env' := [(0, _), (1, _), (2, _), (7, _)]) ⟨rfl, rfl, rfl, rfl, trivial⟩ ?_
  refine Tr.loop (S := fun n (z : Int × Unit) env x => match z with | (i_6, _) => env = [(0, .int .i64 n_0), (1, upairs_1), (2, .int .u32 (s_2.toNat : Int)), (7, .int .i64 i_6)] ∧ x = ⟨m, l⟩ ∧ n = (n_0 - i_6).toNat ∧ 0 ≤ i_6 ∧ forK (σ := Unit) (fun i s nx_ => syllogistref_Free_b7 n_0 pairs_1 s_2 fuel i nx_) (fun _ => syllogistref_Free_k3) n i_6 () = some r) _ ((0 : Int), ()) ⟨rfl, rfl, rfl, (by omega), hr⟩ ?_
  rintro n9 ⟨i_6, _⟩ env x ⟨rfl, rfl, hni_6, h0i_6, hr⟩
  cases n9 with
  | zero =>
    simp only [forK] at hr
    refine Tr.seq ?_
    refine Tr.seq ?_
    refine Tr.region_f (fun _ => false) ?_
    refine W.q rfl rfl rfl rfl (by decide) (Yd.mv rfl (.t rfl)) ?_
    refine W.q rfl rfl rfl rfl (by decide) (Yd.mv rfl (.t rfl)) ?_
    refine W.q rfl rfl rfl rfl (by decide) (Yd.lss rfl (.t rfl) (.t rfl)) ?_
    refine W.end ?_
    refine NX.sub (env' := [(0, _), (1, _), (2, _), (7, _), (11, _)]) ⟨rfl, rfl, rfl, rfl, rfl, trivial⟩ ?_
    refine NX.then ?_
    refine Tr.cond (.t rfl) (fun hb => ?_) (fun hb => ?_)
    · exact absurd (hb.symm.trans (fr_end hni_6)) (by decide)
    ·
      refine Tr.exit' (EX.then (EX.then (EX.block ?_)))
      refine NX.sub (env' := []) trivial ?_
      exact hk4 _ _ ⟨rfl, rfl, hr⟩
  | succ n9 =>
    obtain ⟨nx8, hnx8, hr⟩ := forK_succ hr
    try dsimp only at hr
    unfold syllogistref_Free_b7 at hr
    try dsimp only at hr
    have hlti_6 := fr_bnd hni_6
    refine Tr.seq ?_
    refine Tr.seq ?_
    refine Tr.region_f (fun _ => false) ?_
    refine W.q rfl rfl rfl rfl (by decide) (Yd.mv rfl (.t rfl)) ?_
    refine W.q rfl rfl rfl rfl (by decide) (Yd.mv rfl (.t rfl)) ?_
    refine W.q rfl rfl rfl rfl (by decide) (Yd.lss rfl (.t rfl) (.t rfl)) ?_
    refine W.end ?_
    refine NX.sub (env' := [(0, _), (1, _), (2, _), (7, _), (11, _)]) ⟨rfl, rfl, rfl, rfl, rfl, trivial⟩ ?_
    refine NX.then ?_
    refine Tr.cond (.t rfl) (fun hb => ?_) (fun hb => ?_)
    rotate_left
    · exact absurd (hb.symm.trans (fr_go hni_6)) (by decide)
    ·
      refine Tr.skip' ?_
      refine NX.then ?_
      refine Tr.seq ?_
      refine Tr.block ?_
      refine Tr.seq ?_
      refine Tr.region_f (fun _ => false) ?_
      refine W.q rfl rfl rfl rfl (by decide) (Yd.as rfl .c) ?_
      refine W.end ?_
      refine NX.sub (env' := [(0, _), (1, _), (2, _), (7, _), (8, _)]) ⟨rfl, rfl, rfl, rfl, rfl, trivial⟩ ?_
      refine NX.then ?_
      refine Tr.join (S := fun env x => env = [(0, .int .i64 n_0), (1, upairs_1), (2, .int .u32 (s_2.toNat : Int)), (7, .int .i64 i_6)] ∧ x = ⟨m, l⟩ ∧ syllogistref_Free_k12 nx8 = some r) ?_ (fun hk13 => ?_)
      · rintro _ _ ⟨rfl, rfl, hr⟩
        unfold syllogistref_Free_k12 at hr
        try dsimp only at hr
        refine NX.block ?_
        refine NX.then ?_
        refine Tr.region_f (fun _ => false) ?_
        refine W.q rfl rfl rfl rfl (by decide) (Yd.mv rfl (.t rfl)) ?_
        refine W.q rfl rfl rfl rfl (by decide) (Yd.add rfl (.t rfl) .c) ?_
        refine W.q rfl rfl rfl rfl (by decide) (Yd.as rfl (.t rfl)) ?_
        refine W.end ?_
        refine NX.sub (env' := [(0, _), (1, _), (2, _), (7, _)]) ⟨rfl, rfl, rfl, rfl, trivial⟩ ?_
        refine NX.sub (env' := [(0, _), (1, _), (2, _), (7, _)]) ⟨rfl, rfl, rfl, rfl, trivial⟩ ?_
        have hw := w64_id (n := i_6 + 1) (by omega) (by omega)
        exact NX.again n9 (i_6 + 1, ()) (Nat.lt_succ_self _) ⟨(by rw [hw] <;> rfl), rfl, (fr_dec hni_6), (by omega), ((hnx8 _).symm.trans hr)⟩
      obtain ⟨hle14, hr⟩ := guard_some hr; replace hle14 := of_decide_eq_true hle14
      refine Tr.block ?_
      refine Tr.sub (env' := [(0, _), (1, _), (2, _), (7, _), (8, _)]) ⟨rfl, rfl, rfl, rfl, rfl, trivial⟩ ?_
      refine Tr.loop (S := fun n (z : Int × Unit) env x => match z with | (j_15, _) => env = [(0, .int .i64 n_0), (1, upairs_1), (2, .int .u32 (s_2.toNat : Int)), (7, .int .i64 i_6), (8, .int .i64 j_15)] ∧ x = ⟨m, l⟩ ∧ n = (n_0 - j_15).toNat ∧ 0 ≤ j_15 ∧ forK (σ := Unit) (fun i s nx_ => syllogistref_Free_b16 n_0 pairs_1 s_2 fuel i_6 i nx_) (fun _ => syllogistref_Free_k12 nx8) n j_15 () = some r) _ ((0 : Int), ()) ⟨rfl, rfl, rfl, (by omega), hr⟩ ?_
      rintro n18 ⟨j_15, _⟩ env x ⟨rfl, rfl, hnj_15, h0j_15, hr⟩
      cases n18 with
      | zero =>
        simp only [forK] at hr
        refine Tr.seq ?_
        refine Tr.seq ?_
        refine Tr.region_f (fun _ => false) ?_
        refine W.q rfl rfl rfl rfl (by decide) (Yd.mv rfl (.t rfl)) ?_
        refine W.q rfl rfl rfl rfl (by decide) (Yd.mv rfl (.t rfl)) ?_
        refine W.q rfl rfl rfl rfl (by decide) (Yd.lss rfl (.t rfl) (.t rfl)) ?_
        refine W.end ?_
        refine NX.sub (env' := [(0, _), (1, _), (2, _), (7, _), (8, _), (16, _)]) ⟨rfl, rfl, rfl, rfl, rfl, rfl, trivial⟩ ?_
        refine NX.then ?_
        refine Tr.cond (.t rfl) (fun hb => ?_) (fun hb => ?_)
        · exact absurd (hb.symm.trans (fr_end hnj_15)) (by decide)
        ·
          refine Tr.exit' (EX.then (EX.then (EX.block ?_)))
          refine NX.sub (env' := [(0, _), (1, _), (2, _), (7, _)]) ⟨rfl, rfl, rfl, rfl, trivial⟩ ?_
          exact hk13 _ _ ⟨rfl, rfl, hr⟩
      | succ n18 =>
        obtain ⟨nx17, hnx17, hr⟩ := forK_succ hr
        try dsimp only at hr
        unfold syllogistref_Free_b16 at hr
        try dsimp only at hr
        have hltj_15 := fr_bnd hnj_15
        refine Tr.seq ?_
        refine Tr.seq ?_
        refine Tr.region_f (fun _ => false) ?_
        refine W.q rfl rfl rfl rfl (by decide) (Yd.mv rfl (.t rfl)) ?_
        refine W.q rfl rfl rfl rfl (by decide) (Yd.mv rfl (.t rfl)) ?_
        refine W.q rfl rfl rfl rfl (by decide) (Yd.lss rfl (.t rfl) (.t rfl)) ?_
        refine W.end ?_
        refine NX.sub (env' := [(0, _), (1, _), (2, _), (7, _), (8, _), (16, _)]) ⟨rfl, rfl, rfl, rfl, rfl, rfl, trivial⟩ ?_
        refine NX.then ?_
        refine Tr.cond (.t rfl) (fun hb => ?_) (fun hb => ?_)
        rotate_left
        · exact absurd (hb.symm.trans (fr_go hnj_15)) (by decide)
        ·
          refine Tr.skip' ?_
          refine NX.then ?_
          refine Tr.seq ?_
          refine Tr.block ?_
          refine Tr.seq ?_
          obtain ⟨ha19, hr⟩ := guard_some hr
          obtain ⟨ha20, hr⟩ := guard_some hr
          obtain ⟨ha21, hr⟩ := guard_some hr
          refine Tr.region_f (fun _ => false) ?_
          refine W.q rfl rfl rfl rfl (by decide) (Yd.mv rfl (.t rfl)) ?_
          refine W.q rfl rfl rfl rfl (by decide) (Yd.mv rfl (.t rfl)) ?_
          refine W.q rfl rfl rfl rfl (by decide) (Yd.neq rfl (.t rfl) (.t rfl)) ?_
          refine W.q rfl rfl rfl rfl (by decide) (Yd.mv rfl (.t rfl)) ?_
          refine W.g rfl rfl rfl rfl rfl (.t rfl _) rfl (by decide) (fun hG => Yd.mv rfl (.t rfl)) ?_
          refine W.g rfl rfl rfl rfl rfl (.t rfl _) rfl (by decide) (fun hG => Yd.mv rfl (.t rfl)) ?_
          refine W.g rfl rfl rfl rfl rfl (.t rfl _) rfl (by decide) (fun hG => Yd.call (v := .bool ((((syllogistref_Bit s_2 i_6).getD false)))) rfl Try.func17 rfl rfl (.cons (.g rfl hG) (.cons (.g rfl hG) .nil)) (fun x' hx w hw => syllogistref_Bit_ok w0 x'.m x'.l s_2 i_6 _ (gd_get (d := false) ha19 hG) w hw)) ?_
          refine W.q rfl rfl rfl rfl (by decide) (Yd.and rfl (.t rfl) .c rfl rfl) ?_
          refine W.q rfl rfl rfl rfl (by decide) (Yd.mv rfl (.t rfl)) ?_
          refine W.g rfl rfl rfl rfl rfl (.t rfl _) rfl (by decide) (fun hG => Yd.mv rfl (.t rfl)) ?_
          refine W.g rfl rfl rfl rfl rfl (.t rfl _) rfl (by decide) (fun hG => Yd.mv rfl (.t rfl)) ?_
          refine W.g rfl rfl rfl rfl rfl (.t rfl _) rfl (by decide) (fun hG => Yd.call (v := .bool ((((syllogistref_Bit s_2 j_15).getD false)))) rfl Try.func17 rfl rfl (.cons (.g rfl hG) (.cons (.g rfl hG) .nil)) (fun x' hx w hw => syllogistref_Bit_ok w0 x'.m x'.l s_2 j_15 _ (gd_get (d := false) ha20 hG) w hw)) ?_
          refine W.q rfl rfl rfl rfl (by decide) (Yd.and rfl (.t rfl) .c rfl rfl) ?_
          refine W.q rfl rfl rfl rfl (by decide) (Yd.mv rfl (.t rfl)) ?_
          refine W.g rfl rfl rfl rfl rfl (.t rfl _) rfl (by decide) (fun hG => Yd.mv rfl (.t rfl)) ?_
          refine W.g rfl rfl rfl rfl rfl (.t rfl _) rfl (by decide) (fun hG => Yd.mv rfl (.t rfl)) ?_
          refine W.g rfl rfl rfl rfl rfl (.t rfl _) rfl (by decide) (fun hG => Yd.mv rfl (.t rfl)) ?_
          refine W.g rfl rfl rfl rfl rfl (.t rfl _) rfl (by decide) (fun hG => Yd.mv rfl (.t rfl)) ?_
          refine W.g rfl rfl rfl rfl rfl (.t rfl _) rfl (by decide) (fun hG => Yd.call (v := .bool ((((syllogistref_Under fuel n_0 pairs_1 i_6 j_15).getD false)))) rfl Try.func18 rfl rfl (.cons (.g rfl hG) (.cons (.g rfl hG) (.cons (.g rfl hG) (.cons (.g rfl hG) .nil)))) (fun x' hx w hw => syllogistref_Under_ok w0 x'.m x'.l fuel n_0 _ _ (hpairs_1.mono hx.1) i_6 j_15 _ (gd_get (d := false) ha21 hG) w hw)) ?_
          refine W.q rfl rfl rfl rfl (by decide) (Yd.and rfl (.t rfl) .c rfl rfl) ?_
          refine W.end ?_
          refine NX.sub (env' := [(0, _), (1, _), (2, _), (7, _), (8, _), (38, _)]) ⟨rfl, rfl, rfl, rfl, rfl, rfl, trivial⟩ ?_
          refine NX.then ?_
          refine Tr.cond (.t rfl) (fun hb => ?_) (fun hb => ?_)
          · have hr := cond_t hb hr
            refine Tr.seq ?_
            refine Tr.region_f (fun _ => false) ?_
            refine W.q rfl rfl rfl rfl (by decide) (Yd.as rfl .c) ?_
            refine W.end ?_
            refine NX.sub (env' := [(6, _)]) ⟨rfl, trivial⟩ ?_
            refine NX.then ?_
            refine Tr.ret' (RT.block (RT.then (RT.then (RT.block (RT.block (RT.then (RT.then (RT.block (RT.then ?_)))))))))
            refine res1 rfl rfl ?_
            intro w hc
            cases hr
            exact ⟨rfl, hc⟩
          · have hr := cond_f hb hr
            refine Tr.skip' ?_
            refine NX.block ?_
            refine NX.then ?_
            refine Tr.region_f (fun _ => false) ?_
            refine W.q rfl rfl rfl rfl (by decide) (Yd.mv rfl (.t rfl)) ?_
            refine W.q rfl rfl rfl rfl (by decide) (Yd.add rfl (.t rfl) .c) ?_
            refine W.q rfl rfl rfl rfl (by decide) (Yd.as rfl (.t rfl)) ?_
            refine W.end ?_
            refine NX.sub (env' := [(0, _), (1, _), (2, _), (7, _), (8, _)]) ⟨rfl, rfl, rfl, rfl, rfl, trivial⟩ ?_
            refine NX.sub (env' := [(0, _), (1, _), (2, _), (7, _), (8, _)]) ⟨rfl, rfl, rfl, rfl, rfl, trivial⟩ ?_
            have hw := w64_id (n := j_15 + 1) (by omega) (by omega)
            exact NX.again n18 (j_15 + 1, ()) (Nat.lt_succ_self _) ⟨(by rw [hw] <;> rfl), rfl, (fr_dec hnj_15), (by omega), ((hnx17 _).symm.trans hr)⟩

def syllogistref_Widest_k6 (best_5 : BitVec 32) : Option ((BitVec 32)) :=
  some best_5

def syllogistref_Widest_b9 (n_0 : Int) (pairs_1 : List (Int × Int)) (fuel : Nat) (s_8 : BitVec 32) (best_3 : BitVec 32) (nx10 : (BitVec 32) → Option ((BitVec 32))) : Option ((BitVec 32)) :=
  (syllogistref_Size s_8).bind fun r12 =>
  (syllogistref_Size best_3).bind fun r14 =>
  bif (!((decide (r12 > r14)) == true) || (syllogistref_Free fuel n_0 pairs_1 s_8).isSome) then
  (bif ((decide (r12 > r14)) && (((syllogistref_Free fuel n_0 pairs_1 s_8).getD false))) then
  nx10 s_8
  else
  nx10 best_3) else none

def syllogistref_Widest (fuel : Nat) (n_0 : Int) (pairs_1 : List (Int × Int)) : Option ((BitVec 32)) :=
  forK (σ := (BitVec 32)) (fun i s nx_ => syllogistref_Widest_b9 n_0 pairs_1 fuel i s nx_) (fun s => syllogistref_Widest_k6 s) (((1#32 <<< ((BitVec.ofInt 64 n_0)).toNat)).toNat - (0#32).toNat) 0#32 (0#32)

set_option maxRecDepth 100000 in
theorem syllogistref_Widest_ok (w0 : World) (m : Snap) (l : List HI) (fuel : Nat) (n_0 : Int) (upairs_1 : Value) (pairs_1 : List (Int × Int)) (hpairs_1 : RS rP m upairs_1 pairs_1) (r : (BitVec 32)) (hr : syllogistref_Widest fuel n_0 pairs_1 = some r) (w : World) (hc : cX w0 ⟨m, l⟩ w) :
    Calls Try.prog 26 [.int .i64 n_0, upairs_1].toArray w fun e w' => e = .returned (.int .u32 (r.toNat : Int)) ∧ cX w0 ⟨m, l⟩ w' := by
  unfold syllogistref_Widest at hr
  refine calls_of_Tr (N := 27) Try.func26 rfl hc rfl (Nat.le_of_ble_eq_true rfl) ?_
  refine Tr.seq ?_
  refine Tr.region_f (fun _ => false) ?_
  refine W.q rfl rfl rfl rfl (by decide) (Yd.as rfl .c) ?_
  refine W.end ?_
  refine NX.sub (env' := [(0, _), (1, _)]) ⟨rfl, rfl, trivial⟩ ?_
  refine NX.then ?_
  refine Tr.seq ?_
  refine Tr.region_f (fun _ => false) ?_
  refine W.q rfl rfl rfl rfl (by decide) (Yd.as rfl .c) ?_
  refine W.end ?_
  refine NX.sub (env' := [(0, _), (1, _), (5, _)]) ⟨rfl, rfl, rfl, trivial⟩ ?_
  refine NX.then ?_
  refine Tr.seq ?_
  refine Tr.seq ?_
  refine Tr.region_f (fun _ => false) ?_
  refine W.q rfl rfl rfl rfl (by decide) (Yd.as rfl .c) ?_
  refine W.end ?_
  refine NX.sub (env' := [(0, _), (1, _), (5, _), (6, _)]) ⟨rfl, rfl, rfl, rfl, trivial⟩ ?_
  refine NX.then ?_
  refine Tr.join (S := fun env x => ∃ best_5 : BitVec 32, env = [(5, .int .u32 (best_5.toNat : Int))] ∧ x = ⟨m, l⟩ ∧ syllogistref_Widest_k6 best_5 = some r) ?_ (fun hk7 => ?_)
  · rintro _ _ ⟨best_5, rfl, rfl, hr⟩
    unfold syllogistref_Widest_k6 at hr
    try dsimp only at hr
    refine NX.then ?_
    refine Tr.seq ?_
    refine Tr.region_f (fun _ => false) ?_
    refine W.q rfl rfl rfl rfl (by decide) (Yd.mv rfl (.t rfl)) ?_
    refine W.q rfl rfl rfl rfl (by decide) (Yd.as rfl (.t rfl)) ?_
    refine W.end ?_
    refine NX.sub (env' := [(4, _)]) ⟨rfl, trivial⟩ ?_
    refine NX.then ?_
    refine Tr.ret' ?_
    refine res1 rfl rfl ?_
    intro w hc
    cases hr
    exact ⟨rfl, hc⟩
  refine Tr.block ?_
  refine Tr.sub (env' := [(0, _), (1, _), (5, _), (6, _)]) ⟨rfl, rfl, rfl, rfl, trivial⟩ ?_
  refine Tr.loop (S := fun n (z : BitVec 32 × (BitVec 32)) env x => match z with | (s_8, best_3) => env = [(0, .int .i64 n_0), (1, upairs_1), (5, .int .u32 (best_3.toNat : Int)), (6, .int .u32 (s_8.toNat : Int))] ∧ x = ⟨m, l⟩ ∧ n = ((1#32 <<< ((BitVec.ofInt 64 n_0)).toNat)).toNat - s_8.toNat ∧ forK (σ := (BitVec 32)) (fun i s nx_ => syllogistref_Widest_b9 n_0 pairs_1 fuel i s nx_) (fun s => syllogistref_Widest_k6 s) n s_8 best_3 = some r) _ (0#32, 0#32) ⟨rfl, rfl, rfl, hr⟩ ?_
  rintro n11 ⟨s_8, best_3⟩ env x ⟨rfl, rfl, hns_8, hr⟩
  cases n11 with
  | zero =>
    simp only [forK] at hr
    refine Tr.seq ?_
    refine Tr.seq ?_
    refine Tr.region_f (fun _ => false) ?_
    refine W.q rfl rfl rfl rfl (by decide) (Yd.mv rfl (.t rfl)) ?_
    refine W.q rfl rfl rfl rfl (by decide) (Yd.mv rfl (.t rfl)) ?_
    refine W.q rfl rfl rfl rfl (by decide) (Yd.cvQ rfl US3 Try.underlying55 (.t rfl)) ?_
    refine W.q rfl rfl rfl rfl (by decide) (Yd.shlU (a := 1#32) rfl .c (.t rfl) (Int.natCast_nonneg _)) ?_
    refine W.q rfl rfl rfl rfl (by decide) (Yd.lssU (a := s_8) (b := (1#32 <<< ((BitVec.ofInt 64 n_0)).toNat)) rfl (.t rfl) (.t rfl)) ?_
    refine W.end ?_
    refine NX.sub (env' := [(0, _), (1, _), (5, _), (6, _), (11, _)]) ⟨rfl, rfl, rfl, rfl, rfl, trivial⟩ ?_
    refine NX.then ?_
    refine Tr.cond (.t rfl) (fun hb => ?_) (fun hb => ?_)
    · exact absurd (hb.symm.trans (fu_end hns_8)) (by decide)
    ·
      refine Tr.exit' (EX.then (EX.then (EX.block ?_)))
      refine NX.sub (env' := [(5, _)]) ⟨rfl, trivial⟩ ?_
      exact hk7 _ _ ⟨_, rfl, rfl, hr⟩
  | succ n11 =>
    obtain ⟨nx10, hnx10, hr⟩ := forK_succ hr
    try dsimp only at hr
    unfold syllogistref_Widest_b9 at hr
    try dsimp only at hr
    refine Tr.seq ?_
    refine Tr.seq ?_
    refine Tr.region_f (fun _ => false) ?_
    refine W.q rfl rfl rfl rfl (by decide) (Yd.mv rfl (.t rfl)) ?_
    refine W.q rfl rfl rfl rfl (by decide) (Yd.mv rfl (.t rfl)) ?_
    refine W.q rfl rfl rfl rfl (by decide) (Yd.cvQ rfl US3 Try.underlying55 (.t rfl)) ?_
    refine W.q rfl rfl rfl rfl (by decide) (Yd.shlU (a := 1#32) rfl .c (.t rfl) (Int.natCast_nonneg _)) ?_
    refine W.q rfl rfl rfl rfl (by decide) (Yd.lssU (a := s_8) (b := (1#32 <<< ((BitVec.ofInt 64 n_0)).toNat)) rfl (.t rfl) (.t rfl)) ?_
    refine W.end ?_
    refine NX.sub (env' := [(0, _), (1, _), (5, _), (6, _), (11, _)]) ⟨rfl, rfl, rfl, rfl, rfl, trivial⟩ ?_
    refine NX.then ?_
    refine Tr.cond (.t rfl) (fun hb => ?_) (fun hb => ?_)
    rotate_left
    · exact absurd (hb.symm.trans (fu_go hns_8)) (by decide)
    ·
      refine Tr.skip' ?_
      refine NX.then ?_
      refine Tr.seq ?_
      refine Tr.block ?_
      refine Tr.seq ?_
      obtain ⟨r12, hr13, hr⟩ := bind_some hr
      obtain ⟨r14, hr15, hr⟩ := bind_some hr
      obtain ⟨ha16, hr⟩ := guard_some hr
      refine Tr.region_f (fun _ => false) ?_
      refine W.q rfl rfl rfl rfl (by decide) (Yd.mv rfl (.t rfl)) ?_
      refine W.q rfl rfl rfl rfl (by decide) (Yd.call (v := .int .i64 r12) rfl Try.func31 rfl rfl (.cons (.t rfl) .nil) (fun x' hx w hw => syllogistref_Size_ok w0 x'.m x'.l s_8 _ hr13 w hw)) ?_
      refine W.q rfl rfl rfl rfl (by decide) (Yd.mv rfl (.t rfl)) ?_
      refine W.q rfl rfl rfl rfl (by decide) (Yd.call (v := .int .i64 r14) rfl Try.func31 rfl rfl (.cons (.t rfl) .nil) (fun x' hx w hw => syllogistref_Size_ok w0 x'.m x'.l best_3 _ hr15 w hw)) ?_
      refine W.q rfl rfl rfl rfl (by decide) (Yd.gtr rfl (.t rfl) (.t rfl)) ?_
      refine W.q rfl rfl rfl rfl (by decide) (Yd.mv rfl (.t rfl)) ?_
      refine W.g rfl rfl rfl rfl rfl (.t rfl _) rfl (by decide) (fun hG => Yd.mv rfl (.t rfl)) ?_
      refine W.g rfl rfl rfl rfl rfl (.t rfl _) rfl (by decide) (fun hG => Yd.mv rfl (.t rfl)) ?_
      refine W.g rfl rfl rfl rfl rfl (.t rfl _) rfl (by decide) (fun hG => Yd.mv rfl (.t rfl)) ?_
      refine W.g rfl rfl rfl rfl rfl (.t rfl _) rfl (by decide) (fun hG => Yd.call (v := .bool ((((syllogistref_Free fuel n_0 pairs_1 s_8).getD false)))) rfl Try.func46 rfl rfl (.cons (.g rfl hG) (.cons (.g rfl hG) (.cons (.g rfl hG) .nil))) (fun x' hx w hw => syllogistref_Free_ok w0 x'.m x'.l fuel n_0 _ _ (hpairs_1.mono hx.1) s_8 _ (gd_get (d := false) ha16 hG) w hw)) ?_
      refine W.q rfl rfl rfl rfl (by decide) (Yd.and rfl (.t rfl) .c rfl rfl) ?_
      refine W.end ?_
      refine NX.sub (env' := [(0, _), (1, _), (5, _), (6, _), (24, _)]) ⟨rfl, rfl, rfl, rfl, rfl, trivial⟩ ?_
      refine NX.then ?_
      refine Tr.cond (.t rfl) (fun hb => ?_) (fun hb => ?_)
      · have hr := cond_t hb hr
        refine Tr.region_f (fun _ => false) ?_
        refine W.q rfl rfl rfl rfl (by decide) (Yd.mv rfl (.t rfl)) ?_
        refine W.q rfl rfl rfl rfl (by decide) (Yd.as rfl (.t rfl)) ?_
        refine W.end ?_
        refine NX.sub (env' := [(0, _), (1, _), (5, _), (6, _)]) ⟨rfl, rfl, rfl, rfl, trivial⟩ ?_
        refine NX.block ?_
        refine NX.then ?_
        refine Tr.region_f (fun _ => false) ?_
        refine W.q rfl rfl rfl rfl (by decide) (Yd.mv rfl (.t rfl)) ?_
        refine W.q rfl rfl rfl rfl (by decide) (Yd.addU (a := s_8) (b := 1#32) rfl (.t rfl) .c) ?_
        refine W.q rfl rfl rfl rfl (by decide) (Yd.as rfl (.t rfl)) ?_
        refine W.end ?_
        refine NX.sub (env' := [(0, _), (1, _), (5, _), (6, _)]) ⟨rfl, rfl, rfl, rfl, trivial⟩ ?_
        refine NX.sub (env' := [(0, _), (1, _), (5, _), (6, _)]) ⟨rfl, rfl, rfl, rfl, trivial⟩ ?_
        exact NX.again n11 (s_8 + 1, s_8) (Nat.lt_succ_self _) ⟨rfl, rfl, (fu_dec hns_8), ((hnx10 _).symm.trans hr)⟩
      · have hr := cond_f hb hr
        refine Tr.skip' ?_
        refine NX.block ?_
        refine NX.then ?_
        refine Tr.region_f (fun _ => false) ?_
        refine W.q rfl rfl rfl rfl (by decide) (Yd.mv rfl (.t rfl)) ?_
        refine W.q rfl rfl rfl rfl (by decide) (Yd.addU (a := s_8) (b := 1#32) rfl (.t rfl) .c) ?_
        refine W.q rfl rfl rfl rfl (by decide) (Yd.as rfl (.t rfl)) ?_
        refine W.end ?_
        refine NX.sub (env' := [(0, _), (1, _), (5, _), (6, _)]) ⟨rfl, rfl, rfl, rfl, trivial⟩ ?_
        refine NX.sub (env' := [(0, _), (1, _), (5, _), (6, _)]) ⟨rfl, rfl, rfl, rfl, trivial⟩ ?_
        exact NX.again n11 (s_8 + 1, best_3) (Nat.lt_succ_self _) ⟨rfl, rfl, (fu_dec hns_8), ((hnx10 _).symm.trans hr)⟩

def syllogistlaw_OrderAparts (fuel : Nat) (n_0 : Int) (pairs_1 : List (Int × Int)) : Option (Bool) :=
  (order_Apart n_0 pairs_1).bind fun r1 =>
  (syllogistref_OrderCheck fuel n_0 pairs_1).bind fun r3 =>
  (bif (r3 != (0 : Int)) then
  some (((r1.2 == r3) && (r1.1 == 0#32)))
  else
  bif (!((r1.2 == (0 : Int)) == true) || (syllogistref_Widest fuel n_0 pairs_1).isSome) then
  some (((r1.2 == (0 : Int)) && (r1.1 == (((syllogistref_Widest fuel n_0 pairs_1).getD (0#32)))))) else none)

set_option maxRecDepth 100000 in
theorem syllogistlaw_OrderAparts_ok (w0 : World) (m : Snap) (l : List HI) (fuel : Nat) (n_0 : Int) (upairs_1 : Value) (pairs_1 : List (Int × Int)) (hpairs_1 : RS rP m upairs_1 pairs_1) (r : Bool) (hr : syllogistlaw_OrderAparts fuel n_0 pairs_1 = some r) (w : World) (hc : cX w0 ⟨m, l⟩ w) :
    Calls Try.prog 6 [.int .i64 n_0, upairs_1].toArray w fun e w' => e = .returned (.bool r) ∧ cX w0 ⟨m, l⟩ w' := by
  unfold syllogistlaw_OrderAparts at hr
  refine calls_of_Tr (N := 35) Try.func6 rfl hc rfl (Nat.le_of_ble_eq_true rfl) ?_
  refine Tr.seq ?_
  refine Tr.region_f (fun _ => false) ?_
  refine W.q rfl rfl rfl rfl (by decide) (Yd.as rfl .c) ?_
  refine W.end ?_
  refine NX.sub (env' := [(0, _), (1, _)]) ⟨rfl, rfl, trivial⟩ ?_
  refine NX.then ?_
  refine Tr.seq ?_
  obtain ⟨r1, hr2, hr⟩ := bind_some hr
  refine Tr.region_f (fun _ => false) ?_
  refine W.q rfl rfl rfl rfl (by decide) (Yd.mv rfl (.t rfl)) ?_
  refine W.q rfl rfl rfl rfl (by decide) (Yd.mv rfl (.t rfl)) ?_
  refine W.q rfl rfl rfl rfl (by decide) (Yd.call (v := .tuple #[.int .u32 (r1.1.toNat : Int), .int .i64 r1.2]) rfl Try.func25 rfl rfl (.cons (.t rfl) (.cons (.t rfl) .nil)) (fun x' hx w hw => order_Apart_ok w0 x'.m x'.l n_0 _ _ (hpairs_1.mono hx.1) _ hr2 w hw)) ?_
  refine W.q rfl rfl rfl rfl (by decide) (Yd.mv rfl (.t rfl)) ?_
  refine W.q rfl rfl rfl rfl (by decide) (Yd.ext rfl (.t rfl) rfl) ?_
  refine W.q rfl rfl rfl rfl (by decide) (Yd.ext rfl (.t rfl) rfl) ?_
  refine W.q rfl rfl rfl rfl (by decide) (Yd.as rfl (.t rfl)) ?_
  refine W.q rfl rfl rfl rfl (by decide) (Yd.as rfl (.t rfl)) ?_
  refine W.end ?_
  refine NX.sub (env' := [(0, _), (1, _), (5, _), (6, _)]) ⟨rfl, rfl, rfl, rfl, trivial⟩ ?_
  refine NX.then ?_
  refine Tr.seq ?_
  obtain ⟨r3, hr4, hr⟩ := bind_some hr
  refine Tr.region_f (fun _ => false) ?_
  refine W.q rfl rfl rfl rfl (by decide) (Yd.mv rfl (.t rfl)) ?_
  refine W.q rfl rfl rfl rfl (by decide) (Yd.mv rfl (.t rfl)) ?_
  refine W.q rfl rfl rfl rfl (by decide) (Yd.call (v := .int .i64 r3) rfl Try.func16 rfl rfl (.cons (.t rfl) (.cons (.t rfl) .nil)) (fun x' hx w hw => syllogistref_OrderCheck_ok w0 x'.m x'.l fuel n_0 _ _ (hpairs_1.mono hx.1) _ hr4 w hw)) ?_
  refine W.q rfl rfl rfl rfl (by decide) (Yd.as rfl (.t rfl)) ?_
  refine W.end ?_
  refine NX.sub (env' := [(0, _), (1, _), (5, _), (6, _), (7, _)]) ⟨rfl, rfl, rfl, rfl, rfl, trivial⟩ ?_
  refine NX.then ?_
  refine Tr.seq ?_
  refine Tr.seq ?_
  refine Tr.region_f (fun _ => false) ?_
  refine W.q rfl rfl rfl rfl (by decide) (Yd.mv rfl (.t rfl)) ?_
  refine W.q rfl rfl rfl rfl (by decide) (Yd.neq rfl (.t rfl) .c) ?_
  refine W.end ?_
  refine NX.sub (env' := [(0, _), (1, _), (5, _), (6, _), (7, _), (18, _)]) ⟨rfl, rfl, rfl, rfl, rfl, rfl, trivial⟩ ?_
  refine NX.then ?_
  refine Tr.cond (.t rfl) (fun hb => ?_) (fun hb => ?_)
  · have hr := cond_t hb hr
    refine Tr.seq ?_
    refine Tr.region_f (fun _ => false) ?_
    refine W.q rfl rfl rfl rfl (by decide) (Yd.mv rfl (.t rfl)) ?_
    refine W.q rfl rfl rfl rfl (by decide) (Yd.mv rfl (.t rfl)) ?_
    refine W.q rfl rfl rfl rfl (by decide) (Yd.eql rfl (.t rfl) (.t rfl)) ?_
    refine W.q rfl rfl rfl rfl (by decide) (Yd.mv rfl (.t rfl)) ?_
    refine W.g rfl rfl rfl rfl rfl (.t rfl _) rfl (by decide) (fun hG => Yd.mv rfl (.t rfl)) ?_
    refine W.g rfl rfl rfl rfl rfl (.t rfl _) rfl (by decide) (fun hG => Yd.eqlU (a := r1.1) (b := 0#32) rfl (.g rfl hG) .c) ?_
    refine W.q rfl rfl rfl rfl (by decide) (Yd.and rfl (.t rfl) .c rfl rfl) ?_
    refine W.q rfl rfl rfl rfl (by decide) (Yd.as rfl (.t rfl)) ?_
    refine W.end ?_
    refine NX.sub (env' := [(4, _)]) ⟨rfl, trivial⟩ ?_
    refine NX.then ?_
    refine Tr.ret' (RT.then ?_)
    refine res1 rfl rfl ?_
    intro w hc
    cases hr
    exact ⟨rfl, hc⟩
  · have hr := cond_f hb hr
    refine Tr.skip' ?_
    refine NX.then ?_
    refine Tr.seq ?_
    obtain ⟨ha5, hr⟩ := guard_some hr
    refine Tr.region_f (fun _ => false) ?_
    refine W.q rfl rfl rfl rfl (by decide) (Yd.mv rfl (.t rfl)) ?_
    refine W.q rfl rfl rfl rfl (by decide) (Yd.eql rfl (.t rfl) .c) ?_
    refine W.q rfl rfl rfl rfl (by decide) (Yd.mv rfl (.t rfl)) ?_
    refine W.g rfl rfl rfl rfl rfl (.t rfl _) rfl (by decide) (fun hG => Yd.mv rfl (.t rfl)) ?_
    refine W.g rfl rfl rfl rfl rfl (.t rfl _) rfl (by decide) (fun hG => Yd.mv rfl (.t rfl)) ?_
    refine W.g rfl rfl rfl rfl rfl (.t rfl _) rfl (by decide) (fun hG => Yd.mv rfl (.t rfl)) ?_
    refine W.g rfl rfl rfl rfl rfl (.t rfl _) rfl (by decide) (fun hG => Yd.call (v := .int .u32 (((((syllogistref_Widest fuel n_0 pairs_1).getD (0#32)))).toNat : Int)) rfl Try.func26 rfl rfl (.cons (.g rfl hG) (.cons (.g rfl hG) .nil)) (fun x' hx w hw => syllogistref_Widest_ok w0 x'.m x'.l fuel n_0 _ _ (hpairs_1.mono hx.1) _ (gd_get (d := (0#32)) ha5 hG) w hw)) ?_
    refine W.g rfl rfl rfl rfl rfl (.t rfl _) rfl (by decide) (fun hG => Yd.eqlU (a := r1.1) (b := (((syllogistref_Widest fuel n_0 pairs_1).getD (0#32)))) rfl (.g rfl hG) (.g rfl hG)) ?_
    refine W.q rfl rfl rfl rfl (by decide) (Yd.and rfl (.t rfl) .c rfl rfl) ?_
    refine W.q rfl rfl rfl rfl (by decide) (Yd.as rfl (.t rfl)) ?_
    refine W.end ?_
    refine NX.sub (env' := [(4, _)]) ⟨rfl, trivial⟩ ?_
    refine NX.then ?_
    refine Tr.ret' ?_
    refine res1 rfl rfl ?_
    intro w hc
    cases hr
    exact ⟨rfl, hc⟩
end Go.Proofs.Ytjpbdannibmplaa.Sy
