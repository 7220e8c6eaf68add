/- Functions of the program as plain functions, and that the translation computes them; the conditions stand in each theorem. Printed by an own program. -/
import Derived.Test.YtcihfhfolofomaaG3a
import Derived.Test.YtcihfhfolofomaaProg
namespace Go.Proofs.Ytcihfhfolofomaa.Sy
open Go
set_option linter.unusedVariables false
def flow_labeled_k5 : Option (Int) :=
  some ((0 : Int))

def flow_labeled_b9 (labels_1 : List Label) (t_8 : Int) (nx10 : Unit → Option (Int)) : Option (Int) :=
  (geti labels_1 t_8).bind fun y12 =>
  (label_Check (({ level := y12.level, parts := y12.parts } : Label))).bind fun r16 =>
  (bif (r16 != (0 : Int)) then
  some r16
  else
  nx10 ())

def flow_labeled (fuel : Nat) (n_0 : Int) (labels_1 : List Label) (prog_2 : List Line) : Option (Int) :=
  (flow_wrong fuel n_0 prog_2).bind fun r1 =>
  (bif (r1 != (0 : Int)) then
  some r1
  else
  (bif ((labels_1.length : Int) != n_0) then
  some ((3 : Int))
  else
  forK (σ := Unit) (fun i s nx_ => flow_labeled_b9 labels_1 i nx_) (fun _ => flow_labeled_k5) ((labels_1.length : Int) - (0 : Int)).toNat (0 : Int) ()))

set_option maxRecDepth 100000 in
set_option maxHeartbeats 4000000 in
theorem flow_labeled_ok (w0 : World) (m : Snap) (l : List HI) (fuel : Nat) (n_0 : Int) (ulabels_1 : Value) (labels_1 : List Label) (hlabels_1 : RS rLabel m ulabels_1 labels_1) (uprog_2 : Value) (prog_2 : List Line) (hprog_2 : RS rLine m uprog_2 prog_2) (r : Int) (hr : flow_labeled fuel n_0 labels_1 prog_2 = some r) (w : World) (hc : cX w0 ⟨m, l⟩ w) :
    Calls Try.prog 48 [.int .i64 n_0, ulabels_1, uprog_2].toArray w fun e w' => e = .returned (.int .i64 r) ∧ cX w0 ⟨m, l⟩ w' := by
  unfold flow_labeled at hr
  refine calls_of_Tr (N := 33) Try.func48 rfl hc rfl (Nat.le_of_ble_eq_true rfl) ?_
  refine Tr.seq ?_
  refine Tr.region_f (fun _ => false) ?_
  refine W.q rfl rfl rfl rfl (by decide) (Yd.as rfl .c) ?_
  refine W.end ?_
  refine NX.sub (env' := [(0, _), (1, _), (2, _)]) ⟨rfl, rfl, rfl, trivial⟩ ?_
  refine NX.then ?_
  refine Tr.seq ?_
  refine Tr.seq ?_
  obtain ⟨r1, hr2, hr⟩ := bind_some hr
  refine Tr.region_f (fun _ => false) ?_
  refine W.q rfl rfl rfl rfl (by decide) (Yd.mv rfl (.t rfl)) ?_
  refine W.q rfl rfl rfl rfl (by decide) (Yd.mv rfl (.t rfl)) ?_
  refine W.q rfl rfl rfl rfl (by decide) (Yd.call (v := .int .i64 r1) rfl Try.func41 rfl rfl (.cons (.t rfl) (.cons (.t rfl) .nil)) (fun x' hx w hw => flow_wrong_ok w0 x'.m x'.l fuel n_0 _ _ (hprog_2.mono hx.1) _ hr2 w hw)) ?_
  refine W.q rfl rfl rfl rfl (by decide) (Yd.as rfl (.t rfl)) ?_
  refine W.end ?_
  refine NX.sub (env' := [(0, _), (1, _), (7, _)]) ⟨rfl, rfl, rfl, trivial⟩ ?_
  refine NX.then ?_
  refine Tr.seq ?_
  refine Tr.region_f (fun _ => false) ?_
  refine W.q rfl rfl rfl rfl (by decide) (Yd.mv rfl (.t rfl)) ?_
  refine W.q rfl rfl rfl rfl (by decide) (Yd.neq rfl (.t rfl) .c) ?_
  refine W.end ?_
  refine NX.sub (env' := [(0, _), (1, _), (7, _), (15, _)]) ⟨rfl, rfl, rfl, rfl, trivial⟩ ?_
  refine NX.then ?_
  refine Tr.cond (.t rfl) (fun hb => ?_) (fun hb => ?_)
  · have hr := cond_t hb hr
    refine Tr.seq ?_
    refine Tr.region_f (fun _ => false) ?_
    refine W.q rfl rfl rfl rfl (by decide) (Yd.mv rfl (.t rfl)) ?_
    refine W.q rfl rfl rfl rfl (by decide) (Yd.as rfl (.t rfl)) ?_
    refine W.end ?_
    refine NX.sub (env' := [(6, _)]) ⟨rfl, trivial⟩ ?_
    refine NX.then ?_
    refine Tr.ret' (RT.then ?_)
    refine res1 rfl rfl ?_
    intro w hc
    cases hr
    exact ⟨rfl, hc⟩
  · have hr := cond_f hb hr
    refine Tr.skip' ?_
    refine NX.then ?_
    refine Tr.seq ?_
    refine Tr.seq ?_
    refine Tr.region_f (fun _ => false) ?_
    refine W.q rfl rfl rfl rfl (by decide) (Yd.mv rfl (.t rfl)) ?_
    refine W.q rfl rfl rfl rfl (by decide) (Yd.lenR hlabels_1 rfl Try.underlying22 (.t rfl)) ?_
    refine W.q rfl rfl rfl rfl (by decide) (Yd.mv rfl (.t rfl)) ?_
    refine W.q rfl rfl rfl rfl (by decide) (Yd.neq rfl (.t rfl) (.t rfl)) ?_
    refine W.end ?_
    refine NX.sub (env' := [(1, _), (20, _)]) ⟨rfl, rfl, trivial⟩ ?_
    refine NX.then ?_
    refine Tr.cond (.t rfl) (fun hb => ?_) (fun hb => ?_)
    · have hr := cond_t hb hr
      refine Tr.seq ?_
      refine Tr.region_f (fun _ => false) ?_
      refine W.q rfl rfl rfl rfl (by decide) (Yd.as rfl .c) ?_
      refine W.end ?_
      refine NX.sub (env' := [(6, _)]) ⟨rfl, trivial⟩ ?_
      refine NX.then ?_
      refine Tr.ret' (RT.then ?_)
      refine res1 rfl rfl ?_
      intro w hc
      cases hr
      exact ⟨rfl, hc⟩
    · have hr := cond_f hb hr
      refine Tr.skip' ?_
      refine NX.then ?_
      refine Tr.seq ?_
      refine Tr.seq ?_
      refine Tr.region_f (fun _ => false) ?_
      refine W.q rfl rfl rfl rfl (by decide) (Yd.mv rfl (.t rfl)) ?_
      refine W.q rfl rfl rfl rfl (by decide) (Yd.lenR hlabels_1 rfl Try.underlying22 (.t rfl)) ?_
      refine W.q rfl rfl rfl rfl (by decide) (Yd.mv rfl .c) ?_
      refine W.end ?_
      refine NX.sub (env' := [(21, _), (22, _), (23, _)]) ⟨rfl, rfl, rfl, trivial⟩ ?_
      refine NX.then ?_
      refine Tr.join (S := fun env x => env = [] ∧ x = ⟨m, l⟩ ∧ flow_labeled_k5 = some r) ?_ (fun hk6 => ?_)
      · rintro _ _ ⟨rfl, rfl, hr⟩
        unfold flow_labeled_k5 at hr
        try dsimp only at hr
        refine NX.then ?_
        refine Tr.seq ?_
        refine Tr.region_f (fun _ => false) ?_
        refine W.q rfl rfl rfl rfl (by decide) (Yd.as rfl .c) ?_
        refine W.end ?_
        refine NX.sub (env' := [(6, _)]) ⟨rfl, trivial⟩ ?_
        refine NX.then ?_
        refine Tr.ret' ?_
        refine res1 rfl rfl ?_
        intro w hc
        cases hr
        exact ⟨rfl, hc⟩
      have hlen7 := (hlabels_1).2.1
      refine Tr.block ?_
      refine Tr.sub (env' := [(21, _), (22, _), (23, _)]) ⟨rfl, rfl, rfl, trivial⟩ ?_
      refine Tr.loop (S := fun n (z : Int × Unit) env x => match z with | (t_8, _) => env = [(21, ulabels_1), (22, .int .i64 ((labels_1.length : Int))), (23, .int .i64 t_8)] ∧ x = ⟨m, l⟩ ∧ n = ((labels_1.length : Int) - t_8).toNat ∧ 0 ≤ t_8 ∧ forK (σ := Unit) (fun i s nx_ => flow_labeled_b9 labels_1 i nx_) (fun _ => flow_labeled_k5) n t_8 () = some r) _ ((0 : Int), ()) ⟨rfl, rfl, rfl, (by omega), hr⟩ ?_
      rintro n11 ⟨t_8, _⟩ env x ⟨rfl, rfl, hnt_8, h0t_8, hr⟩
      cases n11 with
      | zero =>
        simp only [forK] at hr
        refine Tr.seq ?_
        refine Tr.region_f (fun _ => false) ?_
        refine W.q rfl rfl rfl rfl (by decide) (Yd.lss rfl (.t rfl) (.t rfl)) ?_
        refine W.end ?_
        refine NX.sub (env' := [(21, _), (22, _), (23, _), (24, _)]) ⟨rfl, rfl, rfl, rfl, trivial⟩ ?_
        refine NX.then ?_
        refine Tr.seq ?_
        refine Tr.cond (.t rfl) (fun hb => ?_) (fun hb => ?_)
        · exact absurd (hb.symm.trans (fr_end hnt_8)) (by decide)
        ·
          refine Tr.exit' (EX.then (EX.then (EX.block ?_)))
          refine NX.sub (env' := []) trivial ?_
          exact hk6 _ _ ⟨rfl, rfl, hr⟩
      | succ n11 =>
        obtain ⟨nx10, hnx10, hr⟩ := forK_succ hr
        try dsimp only at hr
        unfold flow_labeled_b9 at hr
        try dsimp only at hr
        have hltt_8 := fr_bnd hnt_8
        refine Tr.seq ?_
        refine Tr.region_f (fun _ => false) ?_
        refine W.q rfl rfl rfl rfl (by decide) (Yd.lss rfl (.t rfl) (.t rfl)) ?_
        refine W.end ?_
        refine NX.sub (env' := [(21, _), (22, _), (23, _), (24, _)]) ⟨rfl, rfl, rfl, rfl, trivial⟩ ?_
        refine NX.then ?_
        refine Tr.seq ?_
        refine Tr.cond (.t rfl) (fun hb => ?_) (fun hb => ?_)
        rotate_left
        · exact absurd (hb.symm.trans (fr_go hnt_8)) (by decide)
        ·
          refine Tr.skip' ?_
          refine NX.then ?_
          refine Tr.seq ?_
          refine Tr.block ?_
          refine Tr.seq ?_
          obtain ⟨y12, hy13, hr⟩ := bind_some hr
          refine Tr.region_f (fun i => Nat.beq i 2 || Nat.beq i 3) ?_
          refine W.q rfl rfl rfl rfl (by decide) (Yd.idxR hlabels_1 hy13 rfl Try.underlying22 SZ65 (.t rfl) (.t rfl)) ?_
          refine W.q rfl rfl rfl rfl (by decide) (Yd.ldFs (us := [_, _]) hlabels_1 (.refl _) hy13 rfl rfl ON65 US65 SZ65 (.t rfl)) ?_
          refine W.e rfl rfl rfl rfl (by decide) (Ef.al rfl ZR65 rfl) ?_
          rintro _ _ ⟨b14, rfl, rfl⟩
          refine ⟨.inl rfl, ?_⟩
          refine W.cast (m' := m) (l' := hcells b14 [_, _] 65 :: l) rfl rfl ?_
          refine W.s rfl rfl rfl rfl (Ef.stB (pos := 0) (us := [_, _]) (cs' := [_, _]) rfl rfl (.t rfl) (.t rfl) SZ65 rfl rfl rfl (Nat.le_of_ble_eq_true rfl) rfl) ?_
          rintro _ _ ⟨rfl, rfl⟩
          refine ⟨.inl rfl, ?_⟩
          refine W.cast (m' := m) (l' := hcells b14 [_, _] 65 :: l) rfl rfl ?_
          refine W.end ?_
          refine NX.sub (env' := [(21, _), (22, _), (23, _), (9, _)]) ⟨rfl, rfl, rfl, rfl, trivial⟩ ?_
          refine NX.then ?_
          refine Tr.seq ?_
          obtain ⟨r16, hr17, hr⟩ := bind_some hr
          refine Tr.region_f (fun _ => false) ?_
          refine W.q rfl rfl rfl rfl (by decide) (Yd.ldBs (pos := 0) (us := [_, _]) rfl rfl rfl rfl ON65 US65 SZ65 (.t rfl)) ?_
          refine W.q rfl rfl rfl rfl (by decide) (Yd.call (v := .int .i64 r16) rfl Try.func55 rfl rfl (.cons (.t rfl) .nil) (fun x' hx w hw => label_Check_ok w0 x'.m x'.l (({ level := y12.level, parts := y12.parts } : Label)) _ hr17 w hw)) ?_
          refine W.q rfl rfl rfl rfl (by decide) (Yd.as rfl (.t rfl)) ?_
          refine W.end ?_
          refine NX.sub (env' := [(21, _), (22, _), (23, _), (10, _)]) ⟨rfl, rfl, rfl, rfl, trivial⟩ ?_
          refine NX.drop (l' := l) (.cons _ (.refl _)) ?_
          refine NX.then ?_
          refine Tr.seq ?_
          refine Tr.region_f (fun _ => false) ?_
          refine W.q rfl rfl rfl rfl (by decide) (Yd.mv rfl (.t rfl)) ?_
          refine W.q rfl rfl rfl rfl (by decide) (Yd.neq rfl (.t rfl) .c) ?_
          refine W.end ?_
          refine NX.sub (env' := [(21, _), (22, _), (23, _), (10, _), (30, _)]) ⟨rfl, rfl, rfl, rfl, rfl, trivial⟩ ?_
          refine NX.then ?_
          refine Tr.cond (.t rfl) (fun hb => ?_) (fun hb => ?_)
          · have hr := cond_t hb hr
            refine Tr.seq ?_
            refine Tr.region_f (fun _ => false) ?_
            refine W.q rfl rfl rfl rfl (by decide) (Yd.mv rfl (.t rfl)) ?_
            refine W.q rfl rfl rfl rfl (by decide) (Yd.as rfl (.t rfl)) ?_
            refine W.end ?_
            refine NX.sub (env' := [(6, _)]) ⟨rfl, trivial⟩ ?_
            refine NX.then ?_
            refine Tr.ret' (RT.block (RT.then (RT.then (RT.block (RT.then ?_)))))
            refine res1 rfl rfl ?_
            intro w hc
            cases hr
            exact ⟨rfl, hc⟩
          · have hr := cond_f hb hr
            refine Tr.skip' ?_
            refine NX.block ?_
            refine NX.then ?_
            refine Tr.region_f (fun _ => false) ?_
            refine W.q rfl rfl rfl rfl (by decide) (Yd.add rfl (.t rfl) .c) ?_
            refine W.q rfl rfl rfl rfl (by decide) (Yd.mv rfl (.t rfl)) ?_
            refine W.end ?_
            refine NX.sub (env' := [(21, _), (22, _), (23, _)]) ⟨rfl, rfl, rfl, trivial⟩ ?_
            refine NX.sub (env' := [(21, _), (22, _), (23, _)]) ⟨rfl, rfl, rfl, trivial⟩ ?_
            have hw := w64_id (n := t_8 + 1) (by omega) (by omega)
            exact NX.again n11 (t_8 + 1, ()) (Nat.lt_succ_self _) ⟨(by rw [hw] <;> rfl), rfl, (fr_dec hnt_8), (by omega), ((hnx10 _).symm.trans hr)⟩

def slices_Clone_SapiLabelapiLabel (s_0 : List Label) : Option ((List Label)) :=
  bif decide ((([] : List Label)).length + s_0.length ≤ 8796093022208) then
  some ((([] : List Label) ++ s_0)) else none

set_option maxRecDepth 100000 in
set_option maxHeartbeats 4000000 in
theorem slices_Clone_SapiLabelapiLabel_ok (w0 : World) (m : Snap) (l : List HI) (us_0 : Value) (s_0 : List Label) (hs_0 : RS rLabel m us_0 s_0) (r : (List Label)) (hr : slices_Clone_SapiLabelapiLabel s_0 = some r) (w : World) (hc : cX w0 ⟨m, l⟩ w) :
    Calls Try.prog 39 [us_0].toArray w fun e w' => ∃ z0 : Value, e = .returned (z0) ∧ cX w0 ⟨m, hownT 65 2 Label.enc z0 r :: l⟩ w' := by
  unfold slices_Clone_SapiLabelapiLabel at hr
  refine calls_of_Tr (N := 8) Try.func39 rfl hc rfl (Nat.le_of_ble_eq_true rfl) ?_
  refine Tr.seq ?_
  refine Tr.region_f (fun _ => false) ?_
  refine W.q rfl rfl rfl rfl (by decide) (Yd.as rfl .c) ?_
  refine W.end ?_
  refine NX.sub (env' := [(0, _)]) ⟨rfl, trivial⟩ ?_
  refine NX.then ?_
  refine Tr.seq ?_
  refine Tr.seq ?_
  refine Tr.region_f (fun _ => false) ?_
  refine W.q rfl rfl rfl rfl (by decide) (Yd.mv rfl (.t rfl)) ?_
  refine W.q rfl rfl rfl rfl (by decide) (Yd.eqnil hs_0 rfl Try.underlying22 (.t rfl) .c) ?_
  refine W.end ?_
  refine NX.sub (env' := [(0, _), (4, _)]) ⟨rfl, rfl, trivial⟩ ?_
  refine NX.then ?_
  refine Tr.cond (.t rfl) (fun hb => ?_) (fun hb => ?_)
  · obtain rfl : s_0 = [] := RS.nil_of hs_0 hb
    have hr : some ([]) = some r := hr
    refine Tr.seq ?_
    refine Tr.region_f (fun _ => false) ?_
    refine W.q rfl rfl rfl rfl (by decide) (Yd.as rfl .c) ?_
    refine W.end ?_
    refine NX.sub (env' := [(2, _)]) ⟨rfl, trivial⟩ ?_
    refine NX.then ?_
    refine Tr.ret' (RT.then ?_)
    refine res1 rfl rfl ?_
    intro w hc
    cases hr
    exact ⟨_, rfl, (cX_nil hc)⟩
  ·
    refine Tr.skip' ?_
    refine NX.then ?_
    refine Tr.seq ?_
    obtain ⟨hq4, hr⟩ := guard_some hr; replace hq4 := of_decide_eq_true hq4
    refine Tr.region_f (fun i => Nat.beq i 0 || Nat.beq i 2) ?_
    refine W.e rfl rfl rfl rfl (by decide) (Ef.bsT (enc := Label.enc) (vs := []) (ys := []) (fun _ => rfl) IF65 rfl Try.underlying22 (by decide) rfl .nil rfl rfl (by decide)) ?_
    rintro v1 _ rfl
    refine ⟨.inl rfl, ?_⟩
    refine W.cast (m' := m) (l' := hownT 65 2 Label.enc v1 _ :: l) rfl rfl ?_
    refine W.q rfl rfl rfl rfl (by decide) (Yd.mv rfl (.t rfl)) ?_
    refine W.e rfl rfl rfl rfl (by decide) (Ef.apI (pos := 0) (enc := Label.enc) (xs := ([] : List Label)) (ys := s_0) (fun _ => rfl) IF65 rfl rfl Try.underlying22 rfl (by decide) (.t rfl) (.t rfl) (Src.rs (by decide) (.refl _) hs_0) (fun _ => rfl) (by omega) (by omega)) ?_
    rintro v3 _ rfl
    refine ⟨.inl rfl, ?_⟩
    refine W.cast (m' := m) (l' := hownT 65 2 Label.enc v3 _ :: l) rfl rfl ?_
    refine W.q rfl rfl rfl rfl (by decide) (Yd.as rfl (.t rfl)) ?_
    refine W.end ?_
    refine NX.sub (env' := [(2, _)]) ⟨rfl, trivial⟩ ?_
    refine NX.then ?_
    refine Tr.ret' ?_
    refine res1 rfl rfl ?_
    intro w hc
    cases hr
    exact ⟨_, rfl, hc⟩

def label_All (a_0 : Label) (b_1 : Label) : Option (Label) :=
  some (({ level := (if b_1.level > a_0.level then b_1.level else a_0.level), parts := (a_0.parts ||| b_1.parts) } : Label))

set_option maxRecDepth 100000 in
set_option maxHeartbeats 4000000 in
theorem label_All_ok (w0 : World) (m : Snap) (l : List HI) (a_0 : Label) (b_1 : Label) (r : Label) (hr : label_All a_0 b_1 = some r) (w : World) (hc : cX w0 ⟨m, l⟩ w) :
    Calls Try.prog 34 [.agg #[.int .i64 a_0.level, .int .u32 (a_0.parts.toNat : Int)], .agg #[.int .i64 b_1.level, .int .u32 (b_1.parts.toNat : Int)]].toArray w fun e w' => e = .returned (.agg #[.int .i64 r.level, .int .u32 (r.parts.toNat : Int)]) ∧ cX w0 ⟨m, l⟩ w' := by
  unfold label_All at hr
  refine calls_of_Tr (N := 16) Try.func34 rfl hc rfl (Nat.le_of_ble_eq_true rfl) ?_
  refine Tr.seq ?_
  refine Tr.region_f (fun i => Nat.beq i 0 || Nat.beq i 1 || Nat.beq i 2) ?_
  refine W.e rfl rfl rfl rfl (by decide) (Ef.bx rfl (.t rfl) rfl) ?_
  rintro _ _ ⟨b1, rfl, rfl⟩
  refine ⟨.inl rfl, ?_⟩
  refine W.cast (m' := m) (l' := hcells b1 [_, _] 65 :: l) rfl rfl ?_
  refine W.e rfl rfl rfl rfl (by decide) (Ef.bx rfl (.t rfl) rfl) ?_
  rintro _ _ ⟨b3, rfl, rfl⟩
  refine ⟨.inl rfl, ?_⟩
  refine W.cast (m' := m) (l' := hcells b3 [_, _] 65 :: hcells b1 [_, _] 65 :: l) rfl rfl ?_
  refine W.e rfl rfl rfl rfl (by decide) (Ef.al rfl ZR65 rfl) ?_
  rintro _ _ ⟨b5, rfl, rfl⟩
  refine ⟨.inl rfl, ?_⟩
  refine W.cast (m' := m) (l' := hcells b5 [_, _] 65 :: hcells b3 [_, _] 65 :: hcells b1 [_, _] 65 :: l) rfl rfl ?_
  refine W.end ?_
  refine NX.sub (env' := [(2, _), (3, _), (4, _)]) ⟨rfl, rfl, rfl, trivial⟩ ?_
  refine NX.then ?_
  refine Tr.seq ?_
  refine Tr.region_f (fun i => Nat.beq i 11) ?_
  refine W.q rfl rfl rfl rfl (by decide) (Yd.fldB rfl Try.underlying65 rfl SZ3 rfl (.t rfl)) ?_
  refine W.q rfl rfl rfl rfl (by decide) (Yd.ldB (pos := 2) rfl rfl rfl ON3 (.t rfl)) ?_
  refine W.q rfl rfl rfl rfl (by decide) (Yd.fldB rfl Try.underlying65 rfl SZ3 rfl (.t rfl)) ?_
  refine W.q rfl rfl rfl rfl (by decide) (Yd.ldB (pos := 1) rfl rfl rfl ON3 (.t rfl)) ?_
  refine W.q rfl rfl rfl rfl (by decide) (Yd.max2 rfl (.t rfl) (.t rfl)) ?_
  refine W.q rfl rfl rfl rfl (by decide) (Yd.fldB rfl Try.underlying65 rfl SZ63 rfl (.t rfl)) ?_
  refine W.q rfl rfl rfl rfl (by decide) (Yd.ldB (pos := 2) rfl rfl rfl ON63 (.t rfl)) ?_
  refine W.q rfl rfl rfl rfl (by decide) (Yd.fldB rfl Try.underlying65 rfl SZ63 rfl (.t rfl)) ?_
  refine W.q rfl rfl rfl rfl (by decide) (Yd.ldB (pos := 1) rfl rfl rfl ON63 (.t rfl)) ?_
  refine W.q rfl rfl rfl rfl (by decide) (Yd.orU (a := a_0.parts) (b := b_1.parts) rfl (.t rfl) (.t rfl)) ?_
  refine W.q rfl rfl rfl rfl (by decide) (Yd.bld (cells := [.int .i64 ((if b_1.level > a_0.level then b_1.level else a_0.level)), .int .u32 (((a_0.parts ||| b_1.parts)).toNat : Int)]) rfl ZI65 PL65 (.cons (.t rfl) (.cons (.t rfl) .nil)) rfl) ?_
  refine W.s rfl rfl rfl rfl (Ef.stB (pos := 0) (us := [_, _]) (cs' := [_, _]) rfl rfl (.t rfl) (.t rfl) SZ65 rfl rfl rfl (Nat.le_of_ble_eq_true rfl) rfl) ?_
  rintro _ _ ⟨rfl, rfl⟩
  refine ⟨.inl rfl, ?_⟩
  refine W.cast (m' := m) (l' := hcells b5 [_, _] 65 :: hcells b3 [_, _] 65 :: hcells b1 [_, _] 65 :: l) rfl rfl ?_
  refine W.end ?_
  refine NX.sub (env' := [(4, _)]) ⟨rfl, trivial⟩ ?_
  refine NX.drop (l' := hcells b5 [_, _] 65 :: l) (.cons_cons _ (.cons _ (.cons _ (.refl _)))) ?_
  refine NX.then ?_
  refine Tr.ret' ?_
  refine resV1 rfl (Rv.cs (pos := 0) rfl rfl rfl ON65 US65 SZ65) ?_
  intro w hc
  cases hr
  exact ⟨rfl, (cX_sub (.cons _ (.refl _)) hc)⟩

def flow_raise_c1 (i_0 : Int) (cp_0 : Label) (cp_1 : List Label) : Option (Label) :=
  (bif (decide (i_0 < (0 : Int))) then
  some (({ level := cp_0.level, parts := cp_0.parts } : Label))
  else
  (geti cp_1 i_0).bind fun y3 =>
  (label_All (({ level := cp_0.level, parts := cp_0.parts } : Label)) y3).bind fun r5 =>
  some (({ level := r5.level, parts := r5.parts } : Label)))

set_option maxRecDepth 100000 in
set_option maxHeartbeats 4000000 in
theorem flow_raise_c1_ok (w0 : World) (m : Snap) (l : List HI) (i_0 : Int) (fp0 fb0 : Nat) (cp_0 : Label) (hfp0 : l[fp0]? = some (hcells fb0 [.int .i64 cp_0.level, .int .u32 (cp_0.parts.toNat : Int)] 65)) (fp1 fb1 : Nat) (uc_1 : Value) (cp_1 : List Label) (hc_1 : RS rLabel m uc_1 cp_1) (hfp1 : l[fp1]? = some (hcells fb1 [uc_1] 22)) (r : Label) (hr : flow_raise_c1 i_0 cp_0 cp_1 = some r) (w : World) (hc : cX w0 ⟨m, l⟩ w) :
    Calls Try.prog 63 [.int .i64 i_0, bp fb0 0, bp fb1 0].toArray w fun e w' => e = .returned (.agg #[.int .i64 r.level, .int .u32 (r.parts.toNat : Int)]) ∧ cX w0 ⟨m, l⟩ w' := by
  unfold flow_raise_c1 at hr
  refine calls_of_Tr (N := 14) Try.func63 rfl hc rfl (Nat.le_of_ble_eq_true rfl) ?_
  refine Tr.seq ?_
  refine Tr.region_f (fun i => Nat.beq i 0) ?_
  refine W.e rfl rfl rfl rfl (by decide) (Ef.al rfl ZR65 rfl) ?_
  rintro _ _ ⟨b1, rfl, rfl⟩
  refine ⟨.inl rfl, ?_⟩
  refine W.cast (m' := m) (l' := hcells b1 [_, _] 65 :: l) rfl rfl ?_
  refine W.end ?_
  refine NX.sub (env' := [(0, _), (1, _), (2, _), (4, _)]) ⟨rfl, rfl, rfl, rfl, trivial⟩ ?_
  refine NX.then ?_
  refine Tr.seq ?_
  refine Tr.seq ?_
  refine Tr.region_f (fun _ => false) ?_
  refine W.q rfl rfl rfl rfl (by decide) (Yd.mv rfl (.t rfl)) ?_
  refine W.q rfl rfl rfl rfl (by decide) (Yd.lss rfl (.t rfl) .c) ?_
  refine W.end ?_
  refine NX.sub (env' := [(0, _), (1, _), (2, _), (4, _), (6, _)]) ⟨rfl, rfl, rfl, rfl, rfl, trivial⟩ ?_
  refine NX.then ?_
  refine Tr.cond (.t rfl) (fun hb => ?_) (fun hb => ?_)
  · have hr := cond_t hb hr
    refine Tr.seq ?_
    refine Tr.region_f (fun i => Nat.beq i 1) ?_
    refine W.q rfl rfl rfl rfl (by decide) (Yd.ldBs (pos := (fp0 + 1)) (us := [_, _]) hfp0 rfl rfl rfl ON65 US65 SZ65 (.t rfl)) ?_
    refine W.s rfl rfl rfl rfl (Ef.stB (pos := 0) (us := [_, _]) (cs' := [_, _]) rfl rfl (.t rfl) (.t rfl) SZ65 rfl rfl rfl (Nat.le_of_ble_eq_true rfl) rfl) ?_
    rintro _ _ ⟨rfl, rfl⟩
    refine ⟨.inl rfl, ?_⟩
    refine W.cast (m' := m) (l' := hcells b1 [_, _] 65 :: l) rfl rfl ?_
    refine W.end ?_
    refine NX.sub (env' := [(4, _)]) ⟨rfl, trivial⟩ ?_
    refine NX.then ?_
    refine Tr.ret' (RT.then ?_)
    refine resV1 rfl (Rv.cs (pos := 0) rfl rfl rfl ON65 US65 SZ65) ?_
    intro w hc
    cases hr
    exact ⟨rfl, (cX_sub (.cons _ (.refl _)) hc)⟩
  · have hr := cond_f hb hr
    refine Tr.skip' ?_
    refine NX.then ?_
    refine Tr.seq ?_
    obtain ⟨y3, hy4, hr⟩ := bind_some hr
    obtain ⟨r5, hr6, hr⟩ := bind_some hr
    refine Tr.region_x (fun i => Nat.beq i 6) (fun i => Nat.beq i 6) (Ord.of [0, 1, 2, 3, 4, 5, 6]) FM (by kernel_rfl) ?_
    refine W.q rfl rfl rfl rfl (by decide) (Yd.ldBs (pos := (fp0 + 1)) (us := [_, _]) hfp0 rfl rfl rfl ON65 US65 SZ65 (.t rfl)) ?_
    refine W.q rfl rfl rfl rfl (by decide) (Yd.ldB (pos := (fp1 + 1)) hfp1 rfl rfl ON22 (.t rfl)) ?_
    refine W.q rfl rfl rfl rfl (by decide) (Yd.mv rfl (.t rfl)) ?_
    refine W.q rfl rfl rfl rfl (by decide) (Yd.idxR hc_1 hy4 rfl Try.underlying22 SZ65 (.t rfl) (.t rfl)) ?_
    refine W.q rfl rfl rfl rfl (by decide) (Yd.ldFs (us := [_, _]) hc_1 (.refl _) hy4 rfl rfl ON65 US65 SZ65 (.t rfl)) ?_
    refine W.q rfl rfl rfl rfl (by decide) (Yd.call (v := .agg #[.int .i64 r5.level, .int .u32 (r5.parts.toNat : Int)]) rfl Try.func34 rfl rfl (.cons (.t rfl) (.cons (.t rfl) .nil)) (fun x' hx w hw => label_All_ok w0 x'.m x'.l (({ level := cp_0.level, parts := cp_0.parts } : Label)) y3 _ hr6 w hw)) ?_
    refine W.s rfl rfl rfl rfl (Ef.stB (pos := 0) (us := [_, _]) (cs' := [_, _]) rfl rfl (.t rfl) (.t rfl) SZ65 rfl rfl rfl (Nat.le_of_ble_eq_true rfl) rfl) ?_
    rintro _ _ ⟨rfl, rfl⟩
    refine ⟨.inl rfl, ?_⟩
    refine W.cast (m' := m) (l' := hcells b1 [_, _] 65 :: l) rfl rfl ?_
    refine W.end ?_
    refine NX.sub (env' := [(4, _)]) ⟨rfl, trivial⟩ ?_
    refine NX.then ?_
    refine Tr.ret' ?_
    refine resV1 rfl (Rv.cs (pos := 0) rfl rfl rfl ON65 US65 SZ65) ?_
    intro w hc
    cases hr
    exact ⟨rfl, (cX_sub (.cons _ (.refl _)) hc)⟩

def label_Least (a_0 : Label) (b_1 : Label) : Option (Bool) :=
  some (((decide (a_0.level ≤ b_1.level)) && ((a_0.parts &&& ~~~b_1.parts) == 0#32)))

set_option maxRecDepth 100000 in
set_option maxHeartbeats 4000000 in
theorem label_Least_ok (w0 : World) (m : Snap) (l : List HI) (a_0 : Label) (b_1 : Label) (r : Bool) (hr : label_Least a_0 b_1 = some r) (w : World) (hc : cX w0 ⟨m, l⟩ w) :
    Calls Try.prog 33 [.agg #[.int .i64 a_0.level, .int .u32 (a_0.parts.toNat : Int)], .agg #[.int .i64 b_1.level, .int .u32 (b_1.parts.toNat : Int)]].toArray w fun e w' => e = .returned (.bool r) ∧ cX w0 ⟨m, l⟩ w' := by
  unfold label_Least at hr
  refine calls_of_Tr (N := 18) Try.func33 rfl hc rfl (Nat.le_of_ble_eq_true rfl) ?_
  refine Tr.seq ?_
  refine Tr.region_f (fun i => Nat.beq i 0 || Nat.beq i 1) ?_
  refine W.e rfl rfl rfl rfl (by decide) (Ef.bx rfl (.t rfl) rfl) ?_
  rintro _ _ ⟨b1, rfl, rfl⟩
  refine ⟨.inl rfl, ?_⟩
  refine W.cast (m' := m) (l' := hcells b1 [_, _] 65 :: l) rfl rfl ?_
  refine W.e rfl rfl rfl rfl (by decide) (Ef.bx rfl (.t rfl) rfl) ?_
  rintro _ _ ⟨b3, rfl, rfl⟩
  refine ⟨.inl rfl, ?_⟩
  refine W.cast (m' := m) (l' := hcells b3 [_, _] 65 :: hcells b1 [_, _] 65 :: l) rfl rfl ?_
  refine W.q rfl rfl rfl rfl (by decide) (Yd.as rfl .c) ?_
  refine W.end ?_
  refine NX.sub (env' := [(2, _), (3, _)]) ⟨rfl, rfl, trivial⟩ ?_
  refine NX.then ?_
  refine Tr.seq ?_
  refine Tr.region_f (fun _ => false) ?_
  refine W.q rfl rfl rfl rfl (by decide) (Yd.fldB rfl Try.underlying65 rfl SZ3 rfl (.t rfl)) ?_
  refine W.q rfl rfl rfl rfl (by decide) (Yd.ldB (pos := 1) rfl rfl rfl ON3 (.t rfl)) ?_
  refine W.q rfl rfl rfl rfl (by decide) (Yd.fldB rfl Try.underlying65 rfl SZ3 rfl (.t rfl)) ?_
  refine W.q rfl rfl rfl rfl (by decide) (Yd.ldB (pos := 0) rfl rfl rfl ON3 (.t rfl)) ?_
  refine W.q rfl rfl rfl rfl (by decide) (Yd.leq rfl (.t rfl) (.t rfl)) ?_
  refine W.q rfl rfl rfl rfl (by decide) (Yd.mv rfl (.t rfl)) ?_
  refine W.g rfl rfl rfl rfl rfl (.t rfl _) rfl (by decide) (fun hG => Yd.fldB rfl Try.underlying65 rfl SZ63 rfl (.t rfl)) ?_
  refine W.g rfl rfl rfl rfl rfl (.t rfl _) rfl (by decide) (fun hG => Yd.ldB (pos := 1) rfl rfl rfl ON63 (.g rfl hG)) ?_
  refine W.g rfl rfl rfl rfl rfl (.t rfl _) rfl (by decide) (fun hG => Yd.fldB rfl Try.underlying65 rfl SZ63 rfl (.t rfl)) ?_
  refine W.g rfl rfl rfl rfl rfl (.t rfl _) rfl (by decide) (fun hG => Yd.ldB (pos := 0) rfl rfl rfl ON63 (.g rfl hG)) ?_
  refine W.g rfl rfl rfl rfl rfl (.t rfl _) rfl (by decide) (fun hG => Yd.andnU (a := a_0.parts) (b := b_1.parts) rfl (.g rfl hG) (.g rfl hG)) ?_
  refine W.g rfl rfl rfl rfl rfl (.t rfl _) rfl (by decide) (fun hG => Yd.eqlU (a := (a_0.parts &&& ~~~b_1.parts)) (b := 0#32) rfl (.g rfl hG) .c) ?_
  refine W.q rfl rfl rfl rfl (by decide) (Yd.and rfl (.t rfl) .c rfl rfl) ?_
  refine W.q rfl rfl rfl rfl (by decide) (Yd.as rfl (.t rfl)) ?_
  refine W.end ?_
  refine NX.sub (env' := [(4, _)]) ⟨rfl, trivial⟩ ?_
  refine NX.drop (l' := l) (.cons _ (.cons _ (.refl _))) ?_
  refine NX.then ?_
  refine Tr.ret' ?_
  refine res1 rfl rfl ?_
  intro w hc
  cases hr
  exact ⟨rfl, hc⟩

def flow_raise_k13 (clean_11 : Bool) (l12 : List Label) : Option (Bool × (List Label)) :=
  some ((clean_11, l12))

def flow_raise_k37 (nx18 : ((Bool × (List Label)) → Option (Bool × (List Label)))) (clean_35 : Bool) (l36 : List Label) : Option (Bool × (List Label)) :=
  nx18 (clean_35, l36)

def flow_raise_b17 (l_0 : List Line) (c_2 : Label) (slf : ((List Line) → (List Label) → Label → Option (Bool × (List Label)))) (t_16 : Int) (clean_8 : Bool) (l10 : List Label) (nx18 : (Bool × (List Label)) → Option (Bool × (List Label))) : Option (Bool × (List Label)) :=
  (geti l_0 t_16).bind fun y20 =>
  (bif (y20.kind != (1 : Int)) then
  (flow_raise_c1 y20.a (({ level := c_2.level, parts := c_2.parts } : Label)) l10).bind fun r29 =>
  (slf y20.body l10 (({ level := r29.level, parts := r29.parts } : Label))).bind fun r33 =>
  (bif (y20.kind == (2 : Int)) then
  (slf y20.els r33.2 (({ level := r29.level, parts := r29.parts } : Label))).bind fun r39 =>
  flow_raise_k37 nx18 ((r39.1 && (r33.1 && clean_8))) r39.2
  else
  flow_raise_k37 nx18 ((r33.1 && clean_8)) r33.2)
  else
  (flow_raise_c1 y20.a (({ level := c_2.level, parts := c_2.parts } : Label)) l10).bind fun r41 =>
  (flow_raise_c1 y20.b (({ level := c_2.level, parts := c_2.parts } : Label)) l10).bind fun r43 =>
  (label_All r41 r43).bind fun r45 =>
  (geti l10 y20.to).bind fun y49 =>
  (label_Least (({ level := r45.level, parts := r45.parts } : Label)) y49).bind fun r51 =>
  (bif (!r51) then
  (geti l10 y20.to).bind fun y53 =>
  (label_All y53 (({ level := r45.level, parts := r45.parts } : Label))).bind fun r55 =>
  nx18 (false, (l10.set y20.to.toNat r55))
  else
  nx18 (clean_8, l10)))

def flow_raise_s (slf : ((List Line) → (List Label) → Label → Option (Bool × (List Label)))) (l_0 : List Line) (labels_1 : List Label) (c_2 : Label) : Option (Bool × (List Label)) :=
  forK (σ := Bool × (List Label)) (fun i s nx_ => flow_raise_b17 l_0 c_2 slf i s.1 s.2 nx_) (fun s => flow_raise_k13 s.1 s.2) ((l_0.length : Int) - (0 : Int)).toNat (0 : Int) (true, labels_1)

def flow_raise (fuel : Nat) (l_0 : List Line) (labels_1 : List Label) (c_2 : Label) : Option (Bool × (List Label)) :=
  match fuel with
  | 0 => none
  | fuel + 1 => flow_raise_s (flow_raise fuel) l_0 labels_1 c_2

set_option maxRecDepth 100000 in
set_option maxHeartbeats 4000000 in
theorem flow_raise_ok (w0 : World) (m : Snap) (l : List HI) (fuel : Nat) : ∀ (ul_0 : Value) (l_0 : List Line) (hl_0 : RS rLine m ul_0 l_0) (ulabels_1 : Value) (labels_1 : List Label) (c_2 : Label) (r : Bool × (List Label)) (_ : flow_raise fuel l_0 labels_1 c_2 = some r) (w : World) (_ : cX w0 ⟨m, hownT 65 2 Label.enc ulabels_1 labels_1 :: l⟩ w),
    Calls Try.prog 49 [ul_0, ulabels_1, .agg #[.int .i64 c_2.level, .int .u32 (c_2.parts.toNat : Int)]].toArray w fun e w' => e = .returned (.bool r.1) ∧ cX w0 ⟨m, hownT 65 2 Label.enc ulabels_1 r.2 :: l⟩ w' := by
  induction fuel generalizing m l with
  | zero => intro ul_0 l_0 hl_0 ulabels_1 labels_1 c_2 r hr; simp [flow_raise] at hr
  | succ fuel ih =>
  intro ul_0 l_0 hl_0 ulabels_1 labels_1 c_2 r hr w hc
  replace hr : flow_raise_s (flow_raise fuel) l_0 labels_1 c_2 = some r := hr
  obtain ⟨slf, hslf⟩ : ∃ f, f = flow_raise fuel := ⟨_, rfl⟩
  rw [← hslf] at hr ih
  unfold flow_raise_s at hr
  refine calls_of_Tr (N := 76) Try.func49 rfl hc rfl (Nat.le_of_ble_eq_true rfl) ?_
  refine Tr.seq ?_
  refine Tr.region_f (fun i => Nat.beq i 0 || Nat.beq i 1) ?_
  refine W.e rfl rfl rfl rfl (by decide) (Ef.bxO (pos := 0) rfl rfl (.t rfl)) ?_
  rintro _ _ ⟨b1, rfl, rfl⟩
  refine ⟨.inl rfl, ?_⟩
  refine W.cast (m' := m) (l' := hcells b1 [_] 22 :: hownT 65 2 Label.enc ulabels_1 _ :: l) rfl rfl ?_
  refine W.e rfl rfl rfl rfl (by decide) (Ef.bx rfl (.t rfl) rfl) ?_
  rintro _ _ ⟨b3, rfl, rfl⟩
  refine ⟨.inl rfl, ?_⟩
  refine W.cast (m' := m) (l' := hcells b3 [_, _] 65 :: hcells b1 [_] 22 :: hownT 65 2 Label.enc ulabels_1 _ :: l) rfl rfl ?_
  refine W.q rfl rfl rfl rfl (by decide) (Yd.as rfl .c) ?_
  refine W.end ?_
  refine NX.sub (env' := [(0, _), (4, _), (5, _)]) ⟨rfl, rfl, rfl, trivial⟩ ?_
  refine NX.then ?_
  refine Tr.seq ?_
  refine Tr.region_f (fun _ => false) ?_
  refine W.q rfl rfl rfl rfl (by decide) (Yd.as rfl .c) ?_
  refine W.end ?_
  refine NX.sub (env' := [(0, _), (4, _), (5, _), (7, _)]) ⟨rfl, rfl, rfl, rfl, trivial⟩ ?_
  refine NX.then ?_
  refine Tr.seq ?_
  refine Tr.region_f (fun _ => false) ?_
  refine W.q rfl rfl rfl rfl (by decide) (Yd.mkf rfl (.cons (.t rfl) (.cons (.t rfl) .nil))) ?_
  refine W.q rfl rfl rfl rfl (by decide) (Yd.as rfl (.t rfl)) ?_
  refine W.end ?_
  refine NX.sub (env' := [(0, _), (4, _), (7, _), (8, _)]) ⟨rfl, rfl, rfl, rfl, trivial⟩ ?_
  refine NX.then ?_
  refine Tr.seq ?_
  refine Tr.seq ?_
  refine Tr.region_f (fun _ => false) ?_
  refine W.q rfl rfl rfl rfl (by decide) (Yd.mv rfl (.t rfl)) ?_
  refine W.q rfl rfl rfl rfl (by decide) (Yd.lenR hl_0 rfl Try.underlying37 (.t rfl)) ?_
  refine W.q rfl rfl rfl rfl (by decide) (Yd.mv rfl .c) ?_
  refine W.end ?_
  refine NX.sub (env' := [(4, _), (7, _), (8, _), (14, _), (15, _), (16, _)]) ⟨rfl, rfl, rfl, rfl, rfl, rfl, trivial⟩ ?_
  refine NX.then ?_
  refine Tr.join (S := fun env x => ∃ clean_11 : Bool, ∃ l12 : List Label, env = [(7, .bool clean_11)] ∧ x = ⟨m, hownT 65 2 Label.enc ulabels_1 l12 :: l⟩ ∧ flow_raise_k13 clean_11 l12 = some r) ?_ (fun hk14 => ?_)
  · rintro _ _ ⟨clean_11, l12, rfl, rfl, hr⟩
    unfold flow_raise_k13 at hr
    try dsimp only at hr
    refine NX.then ?_
    refine Tr.seq ?_
    refine Tr.region_f (fun _ => false) ?_
    refine W.q rfl rfl rfl rfl (by decide) (Yd.mv rfl (.t rfl)) ?_
    refine W.q rfl rfl rfl rfl (by decide) (Yd.as rfl (.t rfl)) ?_
    refine W.end ?_
    refine NX.sub (env' := [(6, _)]) ⟨rfl, trivial⟩ ?_
    refine NX.then ?_
    refine Tr.ret' ?_
    refine res1 rfl rfl ?_
    intro w hc
    cases hr
    exact ⟨rfl, hc⟩
  have hlen15 := (hl_0).2.1
  refine Tr.block ?_
  refine Tr.sub (env' := [(4, _), (7, _), (8, _), (14, _), (15, _), (16, _)]) ⟨rfl, rfl, rfl, rfl, rfl, rfl, trivial⟩ ?_
  refine Tr.loop (S := fun n (z : Int × Bool × (List Label)) env x => match z with | (t_16, clean_8, l10) => env = [(4, bp b1 0), (7, .bool clean_8), (8, .func (.func 63) #[] #[bp b3 0, bp b1 0]), (14, ul_0), (15, .int .i64 ((l_0.length : Int))), (16, .int .i64 t_16)] ∧ x = ⟨m, hcells b3 [.int .i64 c_2.level, .int .u32 (c_2.parts.toNat : Int)] 65 :: hcells b1 [ulabels_1] 22 :: hownT 65 2 Label.enc ulabels_1 l10 :: l⟩ ∧ n = ((l_0.length : Int) - t_16).toNat ∧ 0 ≤ t_16 ∧ forK (σ := Bool × (List Label)) (fun i s nx_ => flow_raise_b17 l_0 c_2 slf i s.1 s.2 nx_) (fun s => flow_raise_k13 s.1 s.2) n t_16 (clean_8, l10) = some r) _ ((0 : Int), true, labels_1) ⟨rfl, rfl, rfl, (by omega), hr⟩ ?_
  rintro n19 ⟨t_16, clean_8, l10⟩ env x ⟨rfl, rfl, hnt_16, h0t_16, hr⟩
  cases n19 with
  | zero =>
    simp only [forK] at hr
    refine Tr.seq ?_
    refine Tr.region_f (fun _ => false) ?_
    refine W.q rfl rfl rfl rfl (by decide) (Yd.lss rfl (.t rfl) (.t rfl)) ?_
    refine W.end ?_
    refine NX.sub (env' := [(4, _), (7, _), (8, _), (14, _), (15, _), (16, _), (17, _)]) ⟨rfl, rfl, rfl, rfl, rfl, rfl, rfl, trivial⟩ ?_
    refine NX.then ?_
    refine Tr.seq ?_
    refine Tr.cond (.t rfl) (fun hb => ?_) (fun hb => ?_)
    · exact absurd (hb.symm.trans (fr_end hnt_16)) (by decide)
    ·
      refine Tr.exit' (EX.then (EX.then (EX.block ?_)))
      refine NX.sub (env' := [(7, _)]) ⟨rfl, trivial⟩ ?_
      refine NX.drop (l' := hownT 65 2 Label.enc ulabels_1 _ :: l) (.cons _ (.cons _ (.cons_cons _ (.refl _)))) ?_
      exact hk14 _ _ ⟨_, _, rfl, rfl, hr⟩
  | succ n19 =>
    obtain ⟨nx18, hnx18, hr⟩ := forK_succ hr
    try dsimp only at hr
    unfold flow_raise_b17 at hr
    try dsimp only at hr
    have hltt_16 := fr_bnd hnt_16
    refine Tr.seq ?_
    refine Tr.region_f (fun _ => false) ?_
    refine W.q rfl rfl rfl rfl (by decide) (Yd.lss rfl (.t rfl) (.t rfl)) ?_
    refine W.end ?_
    refine NX.sub (env' := [(4, _), (7, _), (8, _), (14, _), (15, _), (16, _), (17, _)]) ⟨rfl, rfl, rfl, rfl, rfl, rfl, rfl, trivial⟩ ?_
    refine NX.then ?_
    refine Tr.seq ?_
    refine Tr.cond (.t rfl) (fun hb => ?_) (fun hb => ?_)
    rotate_left
    · exact absurd (hb.symm.trans (fr_go hnt_16)) (by decide)
    ·
      refine Tr.skip' ?_
      refine NX.then ?_
      refine Tr.seq ?_
      refine Tr.block ?_
      refine Tr.seq ?_
      obtain ⟨y20, hy21, hr⟩ := bind_some hr
      refine Tr.region_f (fun i => Nat.beq i 2 || Nat.beq i 3) ?_
      refine W.q rfl rfl rfl rfl (by decide) (Yd.idxR hl_0 hy21 rfl Try.underlying37 SZ86 (.t rfl) (.t rfl)) ?_
      obtain ⟨_, ⟨u22, u24, rfl, hu23, hu25⟩, hat26⟩ := rLine_el hl_0 hy21
      refine W.q rfl rfl rfl rfl (by decide) (Yd.ldRs hat26 (.refl _) rfl ON86 US86 SZ86 rfl (.t rfl)) ?_
      refine W.e rfl rfl rfl rfl (by decide) (Ef.al rfl ZR86 rfl) ?_
      rintro _ _ ⟨b27, rfl, rfl⟩
      refine ⟨.inl rfl, ?_⟩
      refine W.cast (m' := m) (l' := hcells b27 [_, _, _, _, _, _, _] 86 :: hcells b3 [_, _] 65 :: hcells b1 [_] 22 :: hownT 65 2 Label.enc ulabels_1 _ :: l) rfl rfl ?_
      refine W.s rfl rfl rfl rfl (Ef.stBs (pos := 0) (us := [.int .i64 y20.kind, .int .i64 y20.to, .int .i64 y20.a, .int .i64 y20.b, .int .i64 y20.val, u22, u24]) (cs' := [_, _, _, _, _, _, _]) (.cons (On.lit rfl) (.cons (On.lit rfl) (.cons (On.lit rfl) (.cons (On.lit rfl) (.cons (On.lit rfl) (.cons (On.ro hu23) (.cons (On.ro hu25) .nil))))))) rfl rfl (.t rfl) (.t rfl) SZ86 rfl rfl (Nat.le_of_ble_eq_true rfl) rfl) ?_
      rintro _ _ ⟨rfl, rfl⟩
      refine ⟨.inl rfl, ?_⟩
      refine W.cast (m' := m) (l' := hcells b27 [_, _, _, _, _, _, _] 86 :: hcells b3 [_, _] 65 :: hcells b1 [_] 22 :: hownT 65 2 Label.enc ulabels_1 _ :: l) rfl rfl ?_
      refine W.end ?_
      refine NX.sub (env' := [(4, _), (7, _), (8, _), (14, _), (15, _), (16, _), (10, _)]) ⟨rfl, rfl, rfl, rfl, rfl, rfl, rfl, trivial⟩ ?_
      refine NX.then ?_
      refine Tr.seq ?_
      refine Tr.seq ?_
      refine Tr.region_f (fun _ => false) ?_
      refine W.q rfl rfl rfl rfl (by decide) (Yd.fldB rfl Try.underlying86 rfl SZ3 rfl (.t rfl)) ?_
      refine W.q rfl rfl rfl rfl (by decide) (Yd.ldB (pos := 0) rfl rfl rfl ON3 (.t rfl)) ?_
      refine W.q rfl rfl rfl rfl (by decide) (Yd.neq rfl (.t rfl) .c) ?_
      refine W.end ?_
      refine NX.sub (env' := [(4, _), (7, _), (8, _), (14, _), (15, _), (16, _), (10, _), (22, _)]) ⟨rfl, rfl, rfl, rfl, rfl, rfl, rfl, rfl, trivial⟩ ?_
      refine NX.then ?_
      refine Tr.cond (.t rfl) (fun hb => ?_) (fun hb => ?_)
      · have hr := cond_t hb hr
        refine Tr.seq ?_
        obtain ⟨r29, hr30, hr⟩ := bind_some hr
        refine Tr.region_f (fun i => Nat.beq i 4 || Nat.beq i 5) ?_
        refine W.q rfl rfl rfl rfl (by decide) (Yd.mv rfl (.t rfl)) ?_
        refine W.q rfl rfl rfl rfl (by decide) (Yd.fldB rfl Try.underlying86 rfl SZ3 rfl (.t rfl)) ?_
        refine W.q rfl rfl rfl rfl (by decide) (Yd.ldB (pos := 0) rfl rfl rfl ON3 (.t rfl)) ?_
        refine W.q rfl rfl rfl rfl (by decide) (Yd.callC (v := .agg #[.int .i64 r29.level, .int .u32 (r29.parts.toNat : Int)]) rfl (.t rfl) Try.func63 rfl rfl (.cons (.t rfl) .nil) (by intro x' hx w hw; obtain ⟨kk, hk1, hk2⟩ := leX.offE hx; have hp0 := hk1 3 _ rfl; obtain ⟨m2, hm2, hc2, ⟨L2, hl1, hl2⟩, hback⟩ := cX_lend hw hp0 lone_own; have hL1 : RS rLabel m2 _ _ := RS_of_own hl1 hl2; exact (flow_raise_c1_ok w0 m2 _ y20.a _ _ (({ level := c_2.level, parts := c_2.parts } : Label)) (hk2 3 1 _ rfl rfl) _ _ _ _ hL1 (hk2 3 2 _ rfl rfl) _ hr30 w hc2).mono fun e w' ⟨he, hc'⟩ => ⟨he, (hback m2 _ _ w' (.refl _) hp0).2 hc'⟩)) ?_
        refine W.e rfl rfl rfl rfl (by decide) (Ef.al rfl ZR65 rfl) ?_
        rintro _ _ ⟨b31, rfl, rfl⟩
        refine ⟨.inl rfl, ?_⟩
        refine W.cast (m' := m) (l' := hcells b31 [_, _] 65 :: hcells b27 [_, _, _, _, _, _, _] 86 :: hcells b3 [_, _] 65 :: hcells b1 [_] 22 :: hownT 65 2 Label.enc ulabels_1 _ :: l) rfl rfl ?_
        refine W.s rfl rfl rfl rfl (Ef.stB (pos := 0) (us := [_, _]) (cs' := [_, _]) rfl rfl (.t rfl) (.t rfl) SZ65 rfl rfl rfl (Nat.le_of_ble_eq_true rfl) rfl) ?_
        rintro _ _ ⟨rfl, rfl⟩
        refine ⟨.inl rfl, ?_⟩
        refine W.cast (m' := m) (l' := hcells b31 [_, _] 65 :: hcells b27 [_, _, _, _, _, _, _] 86 :: hcells b3 [_, _] 65 :: hcells b1 [_] 22 :: hownT 65 2 Label.enc ulabels_1 _ :: l) rfl rfl ?_
        refine W.end ?_
        refine NX.sub (env' := [(4, _), (7, _), (8, _), (14, _), (15, _), (16, _), (10, _), (11, _)]) ⟨rfl, rfl, rfl, rfl, rfl, rfl, rfl, rfl, trivial⟩ ?_
        refine NX.then ?_
        refine Tr.seq ?_
        obtain ⟨r33, hr34, hr⟩ := bind_some hr
        refine Tr.region_f (fun i => Nat.beq i 4) ?_
        refine W.q rfl rfl rfl rfl (by decide) (Yd.fldB rfl Try.underlying86 rfl SZ37 rfl (.t rfl)) ?_
        refine W.q rfl rfl rfl rfl (by decide) (Yd.ldB (pos := 1) rfl rfl rfl ON37 (.t rfl)) ?_
        refine W.q rfl rfl rfl rfl (by decide) (Yd.ldB (pos := 3) rfl rfl rfl ON22 (.t rfl)) ?_
        refine W.q rfl rfl rfl rfl (by decide) (Yd.ldBs (pos := 0) (us := [_, _]) rfl rfl rfl rfl ON65 US65 SZ65 (.t rfl)) ?_
        refine W.e rfl rfl rfl rfl (by decide) (Ef.call (R := fun z x' => z = .bool r33.1 ∧ x' = ⟨m, hcells b31 [.int .i64 r29.level, .int .u32 (r29.parts.toNat : Int)] 65 :: hcells b27 [.int .i64 y20.kind, .int .i64 y20.to, .int .i64 y20.a, .int .i64 y20.b, .int .i64 y20.val, u22, u24] 86 :: hcells b3 [.int .i64 c_2.level, .int .u32 (c_2.parts.toNat : Int)] 65 :: hcells b1 [ulabels_1] 22 :: hownT 65 2 Label.enc ulabels_1 r33.2 :: l⟩) rfl Try.func49 rfl rfl (.cons (.t rfl) (.cons (.t rfl) (.cons (.t rfl) .nil))) (fun w hw => (ih _ _ _ _ hu23 _ _ (({ level := r29.level, parts := r29.parts } : Label)) _ hr34 w (cX_front (p := 4) hw rfl)).mono fun e w' ⟨he, hc'⟩ => ⟨_, _, he, ⟨rfl, rfl⟩, cX_back (p := 4) hc' rfl⟩)) ?_
        rintro _ _ ⟨rfl, rfl⟩
        refine ⟨.inl rfl, ?_⟩
        refine W.cast (m' := m) (l' := hcells b31 [_, _] 65 :: hcells b27 [_, _, _, _, _, _, _] 86 :: hcells b3 [_, _] 65 :: hcells b1 [_] 22 :: hownT 65 2 Label.enc ulabels_1 _ :: l) rfl rfl ?_
        refine W.q rfl rfl rfl rfl (by decide) (Yd.mv rfl (.t rfl)) ?_
        refine W.g rfl rfl rfl rfl rfl (.t rfl _) rfl (by decide) (fun hG => Yd.mv rfl (.t rfl)) ?_
        refine W.q rfl rfl rfl rfl (by decide) (Yd.and rfl (.t rfl) .c rfl rfl) ?_
        refine W.q rfl rfl rfl rfl (by decide) (Yd.as rfl (.t rfl)) ?_
        refine W.end ?_
        refine NX.sub (env' := [(4, _), (7, _), (8, _), (14, _), (15, _), (16, _), (10, _), (11, _)]) ⟨rfl, rfl, rfl, rfl, rfl, rfl, rfl, rfl, trivial⟩ ?_
        refine NX.then ?_
        refine Tr.seq ?_
        refine Tr.seq ?_
        refine Tr.region_f (fun _ => false) ?_
        refine W.q rfl rfl rfl rfl (by decide) (Yd.fldB rfl Try.underlying86 rfl SZ3 rfl (.t rfl)) ?_
        refine W.q rfl rfl rfl rfl (by decide) (Yd.ldB (pos := 1) rfl rfl rfl ON3 (.t rfl)) ?_
        refine W.q rfl rfl rfl rfl (by decide) (Yd.eql rfl (.t rfl) .c) ?_
        refine W.end ?_
        refine NX.sub (env' := [(4, _), (7, _), (8, _), (14, _), (15, _), (16, _), (10, _), (11, _), (37, _)]) ⟨rfl, rfl, rfl, rfl, rfl, rfl, rfl, rfl, rfl, trivial⟩ ?_
        refine NX.then ?_
        refine Tr.join (S := fun env x => ∃ clean_35 : Bool, ∃ l36 : List Label, env = [(4, bp b1 0), (7, .bool clean_35), (8, .func (.func 63) #[] #[bp b3 0, bp b1 0]), (14, ul_0), (15, .int .i64 ((l_0.length : Int))), (16, .int .i64 t_16)] ∧ x = ⟨m, hcells b3 [.int .i64 c_2.level, .int .u32 (c_2.parts.toNat : Int)] 65 :: hcells b1 [ulabels_1] 22 :: hownT 65 2 Label.enc ulabels_1 l36 :: l⟩ ∧ flow_raise_k37 nx18 clean_35 l36 = some r) ?_ (fun hk38 => ?_)
        · rintro _ _ ⟨clean_35, l36, rfl, rfl, hr⟩
          unfold flow_raise_k37 at hr
          try dsimp only at hr
          refine NX.then ?_
          refine Tr.exit' (EX.then (EX.block ?_))
          refine NX.then ?_
          refine Tr.region_f (fun _ => false) ?_
          refine W.q rfl rfl rfl rfl (by decide) (Yd.add rfl (.t rfl) .c) ?_
          refine W.q rfl rfl rfl rfl (by decide) (Yd.mv rfl (.t rfl)) ?_
          refine W.end ?_
          refine NX.sub (env' := [(4, _), (7, _), (8, _), (14, _), (15, _), (16, _)]) ⟨rfl, rfl, rfl, rfl, rfl, rfl, trivial⟩ ?_
          refine NX.sub (env' := [(4, _), (7, _), (8, _), (14, _), (15, _), (16, _)]) ⟨rfl, rfl, rfl, rfl, rfl, rfl, trivial⟩ ?_
          have hw := w64_id (n := t_16 + 1) (by omega) (by omega)
          exact NX.again n19 (t_16 + 1, clean_35, l36) (Nat.lt_succ_self _) ⟨(by rw [hw] <;> rfl), rfl, (fr_dec hnt_16), (by omega), ((hnx18 _).symm.trans hr)⟩
        refine Tr.cond (.t rfl) (fun hb => ?_) (fun hb => ?_)
        · have hr := cond_t hb hr
          obtain ⟨r39, hr40, hr⟩ := bind_some hr
          refine Tr.region_f (fun i => Nat.beq i 4) ?_
          refine W.q rfl rfl rfl rfl (by decide) (Yd.fldB rfl Try.underlying86 rfl SZ37 rfl (.t rfl)) ?_
          refine W.q rfl rfl rfl rfl (by decide) (Yd.ldB (pos := 1) rfl rfl rfl ON37 (.t rfl)) ?_
          refine W.q rfl rfl rfl rfl (by decide) (Yd.ldB (pos := 3) rfl rfl rfl ON22 (.t rfl)) ?_
          refine W.q rfl rfl rfl rfl (by decide) (Yd.ldBs (pos := 0) (us := [_, _]) rfl rfl rfl rfl ON65 US65 SZ65 (.t rfl)) ?_
          refine W.e rfl rfl rfl rfl (by decide) (Ef.call (R := fun z x' => z = .bool r39.1 ∧ x' = ⟨m, hcells b31 [.int .i64 r29.level, .int .u32 (r29.parts.toNat : Int)] 65 :: hcells b27 [.int .i64 y20.kind, .int .i64 y20.to, .int .i64 y20.a, .int .i64 y20.b, .int .i64 y20.val, u22, u24] 86 :: hcells b3 [.int .i64 c_2.level, .int .u32 (c_2.parts.toNat : Int)] 65 :: hcells b1 [ulabels_1] 22 :: hownT 65 2 Label.enc ulabels_1 r39.2 :: l⟩) rfl Try.func49 rfl rfl (.cons (.t rfl) (.cons (.t rfl) (.cons (.t rfl) .nil))) (fun w hw => (ih _ _ _ _ hu25 _ _ (({ level := r29.level, parts := r29.parts } : Label)) _ hr40 w (cX_front (p := 4) hw rfl)).mono fun e w' ⟨he, hc'⟩ => ⟨_, _, he, ⟨rfl, rfl⟩, cX_back (p := 4) hc' rfl⟩)) ?_
          rintro _ _ ⟨rfl, rfl⟩
          refine ⟨.inl rfl, ?_⟩
          refine W.cast (m' := m) (l' := hcells b31 [_, _] 65 :: hcells b27 [_, _, _, _, _, _, _] 86 :: hcells b3 [_, _] 65 :: hcells b1 [_] 22 :: hownT 65 2 Label.enc ulabels_1 _ :: l) rfl rfl ?_
          refine W.q rfl rfl rfl rfl (by decide) (Yd.mv rfl (.t rfl)) ?_
          refine W.g rfl rfl rfl rfl rfl (.t rfl _) rfl (by decide) (fun hG => Yd.mv rfl (.t rfl)) ?_
          refine W.q rfl rfl rfl rfl (by decide) (Yd.and rfl (.t rfl) .c rfl rfl) ?_
          refine W.q rfl rfl rfl rfl (by decide) (Yd.as rfl (.t rfl)) ?_
          refine W.end ?_
          refine NX.sub (env' := [(4, _), (7, _), (8, _), (14, _), (15, _), (16, _)]) ⟨rfl, rfl, rfl, rfl, rfl, rfl, trivial⟩ ?_
          refine NX.drop (l' := hcells b3 [_, _] 65 :: hcells b1 [_] 22 :: hownT 65 2 Label.enc ulabels_1 _ :: l) (.cons _ (.cons _ (.cons_cons _ (.cons_cons _ (.cons_cons _ (.refl _)))))) ?_
          refine NX.sub (env' := [(4, _), (7, _), (8, _), (14, _), (15, _), (16, _)]) ⟨rfl, rfl, rfl, rfl, rfl, rfl, trivial⟩ ?_
          exact hk38 _ _ ⟨_, _, rfl, rfl, hr⟩
        · have hr := cond_f hb hr
          refine Tr.skip' ?_
          refine NX.sub (env' := [(4, _), (7, _), (8, _), (14, _), (15, _), (16, _)]) ⟨rfl, rfl, rfl, rfl, rfl, rfl, trivial⟩ ?_
          refine NX.drop (l' := hcells b3 [_, _] 65 :: hcells b1 [_] 22 :: hownT 65 2 Label.enc ulabels_1 _ :: l) (.cons _ (.cons _ (.cons_cons _ (.cons_cons _ (.cons_cons _ (.refl _)))))) ?_
          exact hk38 _ _ ⟨_, _, rfl, rfl, hr⟩
      · have hr := cond_f hb hr
        refine Tr.skip' ?_
        refine NX.then ?_
        refine Tr.seq ?_
        obtain ⟨r41, hr42, hr⟩ := bind_some hr
        obtain ⟨r43, hr44, hr⟩ := bind_some hr
        obtain ⟨r45, hr46, hr⟩ := bind_some hr
        refine Tr.region_x (fun i => Nat.beq i 9 || Nat.beq i 10) (fun i => Nat.beq i 10) (Ord.of [0, 1, 2, 3, 4, 5, 6, 7, 8, 9, 10]) FM (by kernel_rfl) ?_
        refine W.q rfl rfl rfl rfl (by decide) (Yd.mv rfl (.t rfl)) ?_
        refine W.q rfl rfl rfl rfl (by decide) (Yd.fldB rfl Try.underlying86 rfl SZ3 rfl (.t rfl)) ?_
        refine W.q rfl rfl rfl rfl (by decide) (Yd.ldB (pos := 0) rfl rfl rfl ON3 (.t rfl)) ?_
        refine W.q rfl rfl rfl rfl (by decide) (Yd.callC (v := .agg #[.int .i64 r41.level, .int .u32 (r41.parts.toNat : Int)]) rfl (.t rfl) Try.func63 rfl rfl (.cons (.t rfl) .nil) (by intro x' hx w hw; obtain ⟨kk, hk1, hk2⟩ := leX.offE hx; have hp0 := hk1 3 _ rfl; obtain ⟨m2, hm2, hc2, ⟨L2, hl1, hl2⟩, hback⟩ := cX_lend hw hp0 lone_own; have hL1 : RS rLabel m2 _ _ := RS_of_own hl1 hl2; exact (flow_raise_c1_ok w0 m2 _ y20.a _ _ (({ level := c_2.level, parts := c_2.parts } : Label)) (hk2 3 1 _ rfl rfl) _ _ _ _ hL1 (hk2 3 2 _ rfl rfl) _ hr42 w hc2).mono fun e w' ⟨he, hc'⟩ => ⟨he, (hback m2 _ _ w' (.refl _) hp0).2 hc'⟩)) ?_
        refine W.q rfl rfl rfl rfl (by decide) (Yd.mv rfl (.t rfl)) ?_
        refine W.q rfl rfl rfl rfl (by decide) (Yd.fldB rfl Try.underlying86 rfl SZ3 rfl (.t rfl)) ?_
        refine W.q rfl rfl rfl rfl (by decide) (Yd.ldB (pos := 0) rfl rfl rfl ON3 (.t rfl)) ?_
        refine W.q rfl rfl rfl rfl (by decide) (Yd.callC (v := .agg #[.int .i64 r43.level, .int .u32 (r43.parts.toNat : Int)]) rfl (.t rfl) Try.func63 rfl rfl (.cons (.t rfl) .nil) (by intro x' hx w hw; obtain ⟨kk, hk1, hk2⟩ := leX.offE hx; have hp0 := hk1 3 _ rfl; obtain ⟨m2, hm2, hc2, ⟨L2, hl1, hl2⟩, hback⟩ := cX_lend hw hp0 lone_own; have hL1 : RS rLabel m2 _ _ := RS_of_own hl1 hl2; exact (flow_raise_c1_ok w0 m2 _ y20.b _ _ (({ level := c_2.level, parts := c_2.parts } : Label)) (hk2 3 1 _ rfl rfl) _ _ _ _ hL1 (hk2 3 2 _ rfl rfl) _ hr44 w hc2).mono fun e w' ⟨he, hc'⟩ => ⟨he, (hback m2 _ _ w' (.refl _) hp0).2 hc'⟩)) ?_
        refine W.q rfl rfl rfl rfl (by decide) (Yd.call (v := .agg #[.int .i64 r45.level, .int .u32 (r45.parts.toNat : Int)]) rfl Try.func34 rfl rfl (.cons (.t rfl) (.cons (.t rfl) .nil)) (fun x' hx w hw => label_All_ok w0 x'.m x'.l r41 r43 _ hr46 w hw)) ?_
        refine W.e rfl rfl rfl rfl (by decide) (Ef.al rfl ZR65 rfl) ?_
        rintro _ _ ⟨b47, rfl, rfl⟩
        refine ⟨.inr ⟨.refl _, [_], rfl⟩, ?_⟩
        refine W.cast (m' := m) (l' := hcells b47 [_, _] 65 :: hcells b27 [_, _, _, _, _, _, _] 86 :: hcells b3 [_, _] 65 :: hcells b1 [_] 22 :: hownT 65 2 Label.enc ulabels_1 _ :: l) rfl rfl ?_
        refine W.s rfl rfl rfl rfl (Ef.stB (pos := 0) (us := [_, _]) (cs' := [_, _]) rfl rfl (.t rfl) (.t rfl) SZ65 rfl rfl rfl (Nat.le_of_ble_eq_true rfl) rfl) ?_
        rintro _ _ ⟨rfl, rfl⟩
        refine ⟨.inl rfl, ?_⟩
        refine W.cast (m' := m) (l' := hcells b47 [_, _] 65 :: hcells b27 [_, _, _, _, _, _, _] 86 :: hcells b3 [_, _] 65 :: hcells b1 [_] 22 :: hownT 65 2 Label.enc ulabels_1 _ :: l) rfl rfl ?_
        refine W.end ?_
        refine NX.sub (env' := [(4, _), (7, _), (8, _), (14, _), (15, _), (16, _), (10, _), (12, _)]) ⟨rfl, rfl, rfl, rfl, rfl, rfl, rfl, rfl, trivial⟩ ?_
        refine NX.then ?_
        refine Tr.seq ?_
        obtain ⟨y49, hy50, hr⟩ := bind_some hr
        obtain ⟨r51, hr52, hr⟩ := bind_some hr
        refine Tr.region_x (fun _ => false) (fun _ => false) (Ord.of [0, 1, 2, 3, 4, 5, 6, 7]) FM (by kernel_rfl) ?_
        refine W.q rfl rfl rfl rfl (by decide) (Yd.ldBs (pos := 0) (us := [_, _]) rfl rfl rfl rfl ON65 US65 SZ65 (.t rfl)) ?_
        refine W.q rfl rfl rfl rfl (by decide) (Yd.ldB (pos := 3) rfl rfl rfl ON22 (.t rfl)) ?_
        refine W.q rfl rfl rfl rfl (by decide) (Yd.fldB rfl Try.underlying86 rfl SZ3 rfl (.t rfl)) ?_
        refine W.q rfl rfl rfl rfl (by decide) (Yd.ldB (pos := 1) rfl rfl rfl ON3 (.t rfl)) ?_
        refine W.q rfl rfl rfl rfl (by decide) (Yd.idxT (pos := 4) rfl hy50 rfl Try.underlying22 SZ65 (.t rfl) (.t rfl)) ?_
        refine W.q rfl rfl rfl rfl (by decide) (Yd.ldTs (enc := Label.enc) (n := 2) (pos := 4) (us := [_, _]) (fun _ => rfl) rfl hy50 rfl (by decide) rfl ON65 US65 SZ65 (.t rfl)) ?_
        refine W.q rfl rfl rfl rfl (by decide) (Yd.call (v := .bool r51) rfl Try.func33 rfl rfl (.cons (.t rfl) (.cons (.t rfl) .nil)) (fun x' hx w hw => label_Least_ok w0 x'.m x'.l (({ level := r45.level, parts := r45.parts } : Label)) y49 _ hr52 w hw)) ?_
        refine W.q rfl rfl rfl rfl (by decide) (Yd.not rfl (.t rfl)) ?_
        refine W.end ?_
        refine NX.sub (env' := [(4, _), (7, _), (8, _), (14, _), (15, _), (16, _), (10, _), (12, _), (62, _)]) ⟨rfl, rfl, rfl, rfl, rfl, rfl, rfl, rfl, rfl, trivial⟩ ?_
        refine NX.then ?_
        refine Tr.cond (.t rfl) (fun hb => ?_) (fun hb => ?_)
        · have hr := cond_t hb hr
          refine Tr.seq ?_
          refine Tr.region_f (fun _ => false) ?_
          refine W.q rfl rfl rfl rfl (by decide) (Yd.as rfl .c) ?_
          refine W.end ?_
          refine NX.sub (env' := [(4, _), (7, _), (8, _), (14, _), (15, _), (16, _), (10, _), (12, _)]) ⟨rfl, rfl, rfl, rfl, rfl, rfl, rfl, rfl, trivial⟩ ?_
          refine NX.then ?_
          obtain ⟨y53, hy54, hr⟩ := bind_some hr
          obtain ⟨r55, hr56, hr⟩ := bind_some hr
          refine Tr.region_x (fun i => Nat.beq i 11) (fun i => Nat.beq i 11) (Ord.of [0, 1, 2, 3, 4, 5, 6, 7, 8, 9, 10, 11]) FM (by kernel_rfl) ?_
          refine W.q rfl rfl rfl rfl (by decide) (Yd.ldB (pos := 3) rfl rfl rfl ON22 (.t rfl)) ?_
          refine W.q rfl rfl rfl rfl (by decide) (Yd.fldB rfl Try.underlying86 rfl SZ3 rfl (.t rfl)) ?_
          refine W.q rfl rfl rfl rfl (by decide) (Yd.ldB (pos := 1) rfl rfl rfl ON3 (.t rfl)) ?_
          refine W.q rfl rfl rfl rfl (by decide) (Yd.ldB (pos := 3) rfl rfl rfl ON22 (.t rfl)) ?_
          refine W.q rfl rfl rfl rfl (by decide) (Yd.fldB rfl Try.underlying86 rfl SZ3 rfl (.t rfl)) ?_
          refine W.q rfl rfl rfl rfl (by decide) (Yd.ldB (pos := 1) rfl rfl rfl ON3 (.t rfl)) ?_
          refine W.q rfl rfl rfl rfl (by decide) (Yd.idxT (pos := 4) rfl hy54 rfl Try.underlying22 SZ65 (.t rfl) (.t rfl)) ?_
          refine W.q rfl rfl rfl rfl (by decide) (Yd.ldTs (enc := Label.enc) (n := 2) (pos := 4) (us := [_, _]) (fun _ => rfl) rfl hy54 rfl (by decide) rfl ON65 US65 SZ65 (.t rfl)) ?_
          refine W.q rfl rfl rfl rfl (by decide) (Yd.ldBs (pos := 0) (us := [_, _]) rfl rfl rfl rfl ON65 US65 SZ65 (.t rfl)) ?_
          refine W.q rfl rfl rfl rfl (by decide) (Yd.call (v := .agg #[.int .i64 r55.level, .int .u32 (r55.parts.toNat : Int)]) rfl Try.func34 rfl rfl (.cons (.t rfl) (.cons (.t rfl) .nil)) (fun x' hx w hw => label_All_ok w0 x'.m x'.l y53 (({ level := r45.level, parts := r45.parts } : Label)) _ hr56 w hw)) ?_
          refine W.q rfl rfl rfl rfl (by decide) (Yd.idxT (pos := 4) rfl hy54 rfl Try.underlying22 SZ65 (.t rfl) (.t rfl)) ?_
          refine W.s rfl rfl rfl rfl (Ef.stT (enc := Label.enc) (n := 2) (pos := 4) (y := r55) (us := [_, _]) (fun _ => rfl) rfl hy54 rfl (.t rfl) (.t rfl) SZ65 rfl rfl rfl (by decide)) ?_
          rintro _ _ ⟨rfl, rfl⟩
          refine ⟨.inl rfl, ?_⟩
          refine W.cast (m' := m) (l' := hcells b47 [_, _] 65 :: hcells b27 [_, _, _, _, _, _, _] 86 :: hcells b3 [_, _] 65 :: hcells b1 [_] 22 :: hownT 65 2 Label.enc ulabels_1 _ :: l) rfl rfl ?_
          refine W.end ?_
          refine NX.sub (env' := [(4, _), (7, _), (8, _), (14, _), (15, _), (16, _)]) ⟨rfl, rfl, rfl, rfl, rfl, rfl, trivial⟩ ?_
          refine NX.drop (l' := hcells b3 [_, _] 65 :: hcells b1 [_] 22 :: hownT 65 2 Label.enc ulabels_1 _ :: l) (.cons _ (.cons _ (.cons_cons _ (.cons_cons _ (.cons_cons _ (.refl _)))))) ?_
          refine NX.block ?_
          refine NX.then ?_
          refine Tr.region_f (fun _ => false) ?_
          refine W.q rfl rfl rfl rfl (by decide) (Yd.add rfl (.t rfl) .c) ?_
          refine W.q rfl rfl rfl rfl (by decide) (Yd.mv rfl (.t rfl)) ?_
          refine W.end ?_
          refine NX.sub (env' := [(4, _), (7, _), (8, _), (14, _), (15, _), (16, _)]) ⟨rfl, rfl, rfl, rfl, rfl, rfl, trivial⟩ ?_
          refine NX.sub (env' := [(4, _), (7, _), (8, _), (14, _), (15, _), (16, _)]) ⟨rfl, rfl, rfl, rfl, rfl, rfl, trivial⟩ ?_
          have hw := w64_id (n := t_16 + 1) (by omega) (by omega)
          exact NX.again n19 (t_16 + 1, false, (l10.set y20.to.toNat r55)) (Nat.lt_succ_self _) ⟨(by rw [hw] <;> rfl), rfl, (fr_dec hnt_16), (by omega), ((hnx18 _).symm.trans hr)⟩
        · have hr := cond_f hb hr
          refine Tr.skip' ?_
          refine NX.block ?_
          refine NX.then ?_
          refine Tr.region_f (fun _ => false) ?_
          refine W.q rfl rfl rfl rfl (by decide) (Yd.add rfl (.t rfl) .c) ?_
          refine W.q rfl rfl rfl rfl (by decide) (Yd.mv rfl (.t rfl)) ?_
          refine W.end ?_
          refine NX.sub (env' := [(4, _), (7, _), (8, _), (14, _), (15, _), (16, _)]) ⟨rfl, rfl, rfl, rfl, rfl, rfl, trivial⟩ ?_
          refine NX.drop (l' := hcells b3 [_, _] 65 :: hcells b1 [_] 22 :: hownT 65 2 Label.enc ulabels_1 _ :: l) (.cons _ (.cons _ (.cons_cons _ (.cons_cons _ (.cons_cons _ (.refl _)))))) ?_
          refine NX.sub (env' := [(4, _), (7, _), (8, _), (14, _), (15, _), (16, _)]) ⟨rfl, rfl, rfl, rfl, rfl, rfl, trivial⟩ ?_
          have hw := w64_id (n := t_16 + 1) (by omega) (by omega)
          exact NX.again n19 (t_16 + 1, clean_8, l10) (Nat.lt_succ_self _) ⟨(by rw [hw] <;> rfl), rfl, (fr_dec hnt_16), (by omega), ((hnx18 _).symm.trans hr)⟩

def flow_Clean (fuel : Nat) (n_0 : Int) (labels_1 : List Label) (prog_2 : List Line) : Option (Bool × Int) :=
  (flow_labeled fuel n_0 labels_1 prog_2).bind fun r1 =>
  (bif (r1 != (0 : Int)) then
  some ((false, r1))
  else
  (slices_Clone_SapiLabelapiLabel labels_1).bind fun r3 =>
  (flow_raise fuel prog_2 r3 (({ level := (0 : Int), parts := (0#32) } : Label))).bind fun r7 =>
  some ((r7.1, (0 : Int))))

set_option maxRecDepth 100000 in
set_option maxHeartbeats 4000000 in
theorem flow_Clean_ok (w0 : World) (m : Snap) (l : List HI) (fuel : Nat) (n_0 : Int) (ulabels_1 : Value) (labels_1 : List Label) (hlabels_1 : RS rLabel m ulabels_1 labels_1) (uprog_2 : Value) (prog_2 : List Line) (hprog_2 : RS rLine m uprog_2 prog_2) (r : Bool × Int) (hr : flow_Clean fuel n_0 labels_1 prog_2 = some r) (w : World) (hc : cX w0 ⟨m, l⟩ w) :
    Calls Try.prog 21 [.int .i64 n_0, ulabels_1, uprog_2].toArray w fun e w' => e = .returned (.tuple #[.bool r.1, .int .i64 r.2]) ∧ cX w0 ⟨m, l⟩ w' := by
  unfold flow_Clean at hr
  refine calls_of_Tr (N := 21) Try.func21 rfl hc rfl (Nat.le_of_ble_eq_true rfl) ?_
  refine Tr.seq ?_
  refine Tr.region_f (fun _ => false) ?_
  refine W.q rfl rfl rfl rfl (by decide) (Yd.as rfl .c) ?_
  refine W.q rfl rfl rfl rfl (by decide) (Yd.as rfl .c) ?_
  refine W.end ?_
  refine NX.sub (env' := [(0, _), (1, _), (2, _)]) ⟨rfl, rfl, rfl, trivial⟩ ?_
  refine NX.then ?_
  refine Tr.seq ?_
  refine Tr.seq ?_
  obtain ⟨r1, hr2, hr⟩ := bind_some hr
  refine Tr.region_f (fun _ => false) ?_
  refine W.q rfl rfl rfl rfl (by decide) (Yd.mv rfl (.t rfl)) ?_
  refine W.q rfl rfl rfl rfl (by decide) (Yd.mv rfl (.t rfl)) ?_
  refine W.q rfl rfl rfl rfl (by decide) (Yd.mv rfl (.t rfl)) ?_
  refine W.q rfl rfl rfl rfl (by decide) (Yd.call (v := .int .i64 r1) rfl Try.func48 rfl rfl (.cons (.t rfl) (.cons (.t rfl) (.cons (.t rfl) .nil))) (fun x' hx w hw => flow_labeled_ok w0 x'.m x'.l fuel n_0 _ _ (hlabels_1.mono hx.1) _ _ (hprog_2.mono hx.1) _ hr2 w hw)) ?_
  refine W.q rfl rfl rfl rfl (by decide) (Yd.as rfl (.t rfl)) ?_
  refine W.end ?_
  refine NX.sub (env' := [(1, _), (2, _), (8, _)]) ⟨rfl, rfl, rfl, trivial⟩ ?_
  refine NX.then ?_
  refine Tr.seq ?_
  refine Tr.region_f (fun _ => false) ?_
  refine W.q rfl rfl rfl rfl (by decide) (Yd.mv rfl (.t rfl)) ?_
  refine W.q rfl rfl rfl rfl (by decide) (Yd.neq rfl (.t rfl) .c) ?_
  refine W.end ?_
  refine NX.sub (env' := [(1, _), (2, _), (8, _), (14, _)]) ⟨rfl, rfl, rfl, rfl, trivial⟩ ?_
  refine NX.then ?_
  refine Tr.cond (.t rfl) (fun hb => ?_) (fun hb => ?_)
  · have hr := cond_t hb hr
    refine Tr.seq ?_
    refine Tr.region_f (fun _ => false) ?_
    refine W.q rfl rfl rfl rfl (by decide) (Yd.mv rfl (.t rfl)) ?_
    refine W.q rfl rfl rfl rfl (by decide) (Yd.as rfl .c) ?_
    refine W.q rfl rfl rfl rfl (by decide) (Yd.as rfl (.t rfl)) ?_
    refine W.end ?_
    refine NX.sub (env' := [(6, _), (7, _)]) ⟨rfl, rfl, trivial⟩ ?_
    refine NX.then ?_
    refine Tr.ret' (RT.then ?_)
    refine res2 rfl rfl rfl ?_
    intro w hc
    cases hr
    exact ⟨rfl, hc⟩
  · have hr := cond_f hb hr
    refine Tr.skip' ?_
    refine NX.then ?_
    refine Tr.seq ?_
    obtain ⟨r3, hr4, hr⟩ := bind_some hr
    obtain ⟨r7, hr8, hr⟩ := bind_some hr
    refine Tr.region_f (fun i => Nat.beq i 2 || Nat.beq i 4) ?_
    refine W.q rfl rfl rfl rfl (by decide) (Yd.mv rfl (.t rfl)) ?_
    refine W.q rfl rfl rfl rfl (by decide) (Yd.mv rfl (.t rfl)) ?_
    refine W.e rfl rfl rfl rfl (by decide) (Ef.call (R := fun z x' => ∃ v5 : Value, z = v5 ∧ x' = ⟨m, hownT 65 2 Label.enc v5 r3 :: l⟩) rfl Try.func39 rfl rfl (.cons (.t rfl) .nil) (fun w hw => (slices_Clone_SapiLabelapiLabel_ok w0 _ _ _ _ hlabels_1 _ hr4 w hw).mono fun e w' ⟨v5, he, hc'⟩ => ⟨_, _, he, ⟨v5, rfl, rfl⟩, hc'⟩)) ?_
    rintro v5 _ ⟨_, rfl, rfl⟩
    refine ⟨.inl rfl, ?_⟩
    refine W.cast (m' := m) (l' := hownT 65 2 Label.enc v5 _ :: l) rfl rfl ?_
    refine W.q rfl rfl rfl rfl (by decide) (Yd.bld (cells := [.int .i64 ((0 : Int)), .int .u32 (((0#32)).toNat : Int)]) rfl ZI65 PL65 .nil rfl) ?_
    refine W.e rfl rfl rfl rfl (by decide) (Ef.call (R := fun z x' => z = .bool r7.1 ∧ x' = ⟨m, hownT 65 2 Label.enc v5 r7.2 :: l⟩) rfl Try.func49 rfl rfl (.cons (.t rfl) (.cons (.t rfl) (.cons (.t rfl) .nil))) (fun w hw => (flow_raise_ok w0 _ _ fuel _ _ hprog_2 _ _ (({ level := (0 : Int), parts := (0#32) } : Label)) _ hr8 w (cX_front (p := 0) hw rfl)).mono fun e w' ⟨he, hc'⟩ => ⟨_, _, he, ⟨rfl, rfl⟩, cX_back (p := 0) hc' rfl⟩)) ?_
    rintro _ _ ⟨rfl, rfl⟩
    refine ⟨.inl rfl, ?_⟩
    refine W.cast (m' := m) (l' := hownT 65 2 Label.enc v5 _ :: l) rfl rfl ?_
    refine W.q rfl rfl rfl rfl (by decide) (Yd.as rfl (.t rfl)) ?_
    refine W.q rfl rfl rfl rfl (by decide) (Yd.as rfl .c) ?_
    refine W.end ?_
    refine NX.sub (env' := [(6, _), (7, _)]) ⟨rfl, rfl, trivial⟩ ?_
    refine NX.drop (l' := l) (.cons _ (.refl _)) ?_
    refine NX.then ?_
    refine Tr.ret' ?_
    refine res2 rfl rfl rfl ?_
    intro w hc
    cases hr
    exact ⟨rfl, hc⟩

def syllogistref_Fits (n_0 : Int) (s_1 : (BitVec 32)) : Option (Bool) :=
  some (((decide (n_0 ≥ (32 : Int))) || ((decide (n_0 ≥ (0 : Int))) && (decide (s_1 < (1#32 <<< ((BitVec.ofInt 64 n_0)).toNat))))))

set_option maxRecDepth 100000 in
set_option maxHeartbeats 4000000 in
theorem syllogistref_Fits_ok (w0 : World) (m : Snap) (l : List HI) (n_0 : Int) (s_1 : (BitVec 32)) (r : Bool) (hr : syllogistref_Fits n_0 s_1 = some r) (w : World) (hc : cX w0 ⟨m, l⟩ w) :
    Calls Try.prog 56 [.int .i64 n_0, .int .u32 (s_1.toNat : Int)].toArray w fun e w' => e = .returned (.bool r) ∧ cX w0 ⟨m, l⟩ w' := by
  unfold syllogistref_Fits at hr
  refine calls_of_Tr (N := 18) Try.func56 rfl hc rfl (Nat.le_of_ble_eq_true rfl) ?_
  refine Tr.seq ?_
  refine Tr.region_f (fun _ => false) ?_
  refine W.q rfl rfl rfl rfl (by decide) (Yd.as rfl .c) ?_
  refine W.end ?_
  refine NX.sub (env' := [(0, _), (1, _)]) ⟨rfl, rfl, trivial⟩ ?_
  refine NX.then ?_
  refine Tr.seq ?_
  refine Tr.region_f (fun _ => false) ?_
  refine W.q rfl rfl rfl rfl (by decide) (Yd.mv rfl (.t rfl)) ?_
  refine W.q rfl rfl rfl rfl (by decide) (Yd.geq rfl (.t rfl) .c) ?_
  refine W.q rfl rfl rfl rfl (by decide) (Yd.mv rfl (.t rfl)) ?_
  refine W.g rfl rfl rfl rfl rfl (.t rfl _) rfl (by decide) (fun hG => Yd.mv rfl (.t rfl)) ?_
  refine W.g rfl rfl rfl rfl rfl (.t rfl _) rfl (by decide) (fun hG => Yd.geq rfl (.g rfl hG) .c) ?_
  refine W.g rfl rfl rfl rfl rfl (.t rfl _) rfl (by decide) (fun hG => Yd.mv rfl (.g rfl hG)) ?_
  refine W.g rfl rfl rfl rfl rfl (.g rfl _) rfl (by decide) (fun hG => Yd.mv rfl (.t rfl)) ?_
  refine W.g rfl rfl rfl rfl rfl (.g rfl _) rfl (by decide) (fun hG => Yd.mv rfl (.t rfl)) ?_
  refine W.g rfl rfl rfl rfl rfl (.g rfl _) rfl (by decide) (fun hG => Yd.cvQ rfl US3 Try.underlying74 (.g rfl hG)) ?_
  refine W.g rfl rfl rfl rfl rfl (.g rfl _) rfl (by decide) (fun hG => Yd.shlU (a := 1#32) rfl .c (.g rfl hG) (Int.natCast_nonneg _)) ?_
  refine W.g rfl rfl rfl rfl rfl (.g rfl _) rfl (by decide) (fun hG => Yd.lssU (a := s_1) (b := (1#32 <<< ((BitVec.ofInt 64 n_0)).toNat)) rfl (.g rfl hG) (.g rfl hG)) ?_
  refine W.g rfl rfl rfl rfl rfl (.t rfl _) rfl (by decide) (fun hG => Yd.andG rfl (.g rfl hG) .c rfl rfl hG) ?_
  refine W.q rfl rfl rfl rfl (by decide) (Yd.or rfl (.t rfl) .c rfl rfl) ?_
  refine W.q rfl rfl rfl rfl (by decide) (Yd.as rfl (.t rfl)) ?_
  refine W.end ?_
  refine NX.sub (env' := [(4, _)]) ⟨rfl, trivial⟩ ?_
  refine NX.then ?_
  refine Tr.ret' ?_
  refine res1 rfl rfl ?_
  intro w hc
  cases hr
  exact ⟨rfl, hc⟩

def syllogistref_LabelCheck (a_0 : Label) : Option (Int) :=
  bif (!(((decide (a_0.level < (0 : Int))) || (decide (a_0.level > (3 : Int)))) == false) || (syllogistref_Fits ((5 : Int)) a_0.parts).isSome) then
  (bif (((decide (a_0.level < (0 : Int))) || (decide (a_0.level > (3 : Int)))) || (!(((syllogistref_Fits ((5 : Int)) a_0.parts).getD false)))) then
  some ((4 : Int))
  else
  some ((0 : Int))) else none

set_option maxRecDepth 100000 in
set_option maxHeartbeats 4000000 in
theorem syllogistref_LabelCheck_ok (w0 : World) (m : Snap) (l : List HI) (a_0 : Label) (r : Int) (hr : syllogistref_LabelCheck a_0 = some r) (w : World) (hc : cX w0 ⟨m, l⟩ w) :
    Calls Try.prog 35 [.agg #[.int .i64 a_0.level, .int .u32 (a_0.parts.toNat : Int)]].toArray w fun e w' => e = .returned (.int .i64 r) ∧ cX w0 ⟨m, l⟩ w' := by
  unfold syllogistref_LabelCheck at hr
  refine calls_of_Tr (N := 17) Try.func35 rfl hc rfl (Nat.le_of_ble_eq_true rfl) ?_
  refine Tr.seq ?_
  refine Tr.region_f (fun i => Nat.beq i 0) ?_
  refine W.e rfl rfl rfl rfl (by decide) (Ef.bx rfl (.t rfl) rfl) ?_
  rintro _ _ ⟨b1, rfl, rfl⟩
  refine ⟨.inl rfl, ?_⟩
  refine W.cast (m' := m) (l' := hcells b1 [_, _] 65 :: l) rfl rfl ?_
  refine W.q rfl rfl rfl rfl (by decide) (Yd.as rfl .c) ?_
  refine W.end ?_
  refine NX.sub (env' := [(1, _)]) ⟨rfl, trivial⟩ ?_
  refine NX.then ?_
  refine Tr.seq ?_
  refine Tr.seq ?_
  obtain ⟨ha3, hr⟩ := guard_some hr
  refine Tr.region_f (fun _ => false) ?_
  refine W.q rfl rfl rfl rfl (by decide) (Yd.fldB rfl Try.underlying65 rfl SZ3 rfl (.t rfl)) ?_
  refine W.q rfl rfl rfl rfl (by decide) (Yd.ldB (pos := 0) rfl rfl rfl ON3 (.t rfl)) ?_
  refine W.q rfl rfl rfl rfl (by decide) (Yd.lss rfl (.t rfl) .c) ?_
  refine W.q rfl rfl rfl rfl (by decide) (Yd.mv rfl (.t rfl)) ?_
  refine W.g rfl rfl rfl rfl rfl (.t rfl _) rfl (by decide) (fun hG => Yd.fldB rfl Try.underlying65 rfl SZ3 rfl (.t rfl)) ?_
  refine W.g rfl rfl rfl rfl rfl (.t rfl _) rfl (by decide) (fun hG => Yd.ldB (pos := 0) rfl rfl rfl ON3 (.g rfl hG)) ?_
  refine W.g rfl rfl rfl rfl rfl (.t rfl _) rfl (by decide) (fun hG => Yd.gtr rfl (.g rfl hG) .c) ?_
  refine W.q rfl rfl rfl rfl (by decide) (Yd.or rfl (.t rfl) .c rfl rfl) ?_
  refine W.q rfl rfl rfl rfl (by decide) (Yd.mv rfl (.t rfl)) ?_
  refine W.g rfl rfl rfl rfl rfl (.t rfl _) rfl (by decide) (fun hG => Yd.fldB rfl Try.underlying65 rfl SZ63 rfl (.t rfl)) ?_
  refine W.g rfl rfl rfl rfl rfl (.t rfl _) rfl (by decide) (fun hG => Yd.ldB (pos := 0) rfl rfl rfl ON63 (.g rfl hG)) ?_
  refine W.g rfl rfl rfl rfl rfl (.t rfl _) rfl (by decide) (fun hG => Yd.call (v := .bool ((((syllogistref_Fits ((5 : Int)) a_0.parts).getD false)))) rfl Try.func56 rfl rfl (.cons .c (.cons (.g rfl hG) .nil)) (fun x' hx w hw => syllogistref_Fits_ok w0 x'.m x'.l ((5 : Int)) a_0.parts _ (gd_get (d := false) ha3 hG) w hw)) ?_
  refine W.g rfl rfl rfl rfl rfl (.t rfl _) rfl (by decide) (fun hG => Yd.not rfl (.g rfl hG)) ?_
  refine W.q rfl rfl rfl rfl (by decide) (Yd.or rfl (.t rfl) .c rfl rfl) ?_
  refine W.end ?_
  refine NX.sub (env' := [(16, _)]) ⟨rfl, trivial⟩ ?_
  refine NX.drop (l' := l) (.cons _ (.refl _)) ?_
  refine NX.then ?_
  refine Tr.cond (.t rfl) (fun hb => ?_) (fun hb => ?_)
  · have hr := cond_t hb hr
    refine Tr.seq ?_
    refine Tr.region_f (fun _ => false) ?_
    refine W.q rfl rfl rfl rfl (by decide) (Yd.as rfl .c) ?_
    refine W.end ?_
    refine NX.sub (env' := [(2, _)]) ⟨rfl, trivial⟩ ?_
    refine NX.then ?_
    refine Tr.ret' (RT.then ?_)
    refine res1 rfl rfl ?_
    intro w hc
    cases hr
    exact ⟨rfl, hc⟩
  · have hr := cond_f hb hr
    refine Tr.skip' ?_
    refine NX.then ?_
    refine Tr.seq ?_
    refine Tr.region_f (fun _ => false) ?_
    refine W.q rfl rfl rfl rfl (by decide) (Yd.as rfl .c) ?_
    refine W.end ?_
    refine NX.sub (env' := [(2, _)]) ⟨rfl, trivial⟩ ?_
    refine NX.then ?_
    refine Tr.ret' ?_
    refine res1 rfl rfl ?_
    intro w hc
    cases hr
    exact ⟨rfl, hc⟩

def syllogistlaw_flowCode_k11 (x_10 : Int) : Option (Int) :=
  some x_10

def syllogistlaw_flowCode_b15 (labels_1 : List Label) (t_14 : Int) (x_8 : Int) (nx16 : Int → Option (Int)) : Option (Int) :=
  (geti labels_1 t_14).bind fun y18 =>
  (bif (x_8 == (0 : Int)) then
  (syllogistref_LabelCheck (({ level := y18.level, parts := y18.parts } : Label))).bind fun r22 =>
  nx16 r22
  else
  nx16 x_8)

def syllogistlaw_flowCode_k4 (labels_1 : List Label) (x_3 : Int) : Option (Int) :=
  forK (σ := Int) (fun i s nx_ => syllogistlaw_flowCode_b15 labels_1 i s nx_) (fun s => syllogistlaw_flowCode_k11 s) ((labels_1.length : Int) - (0 : Int)).toNat (0 : Int) x_3

def syllogistlaw_flowCode (fuel : Nat) (n_0 : Int) (labels_1 : List Label) (prog_2 : List Line) : Option (Int) :=
  (syllogistref_ProgCheck fuel n_0 prog_2).bind fun r1 =>
  (bif ((r1 == (0 : Int)) && ((labels_1.length : Int) != n_0)) then
  syllogistlaw_flowCode_k4 labels_1 ((3 : Int))
  else
  syllogistlaw_flowCode_k4 labels_1 r1)

set_option maxRecDepth 100000 in
set_option maxHeartbeats 4000000 in
theorem syllogistlaw_flowCode_ok (w0 : World) (m : Snap) (l : List HI) (fuel : Nat) (n_0 : Int) (ulabels_1 : Value) (labels_1 : List Label) (hlabels_1 : RS rLabel m ulabels_1 labels_1) (uprog_2 : Value) (prog_2 : List Line) (hprog_2 : RS rLine m uprog_2 prog_2) (r : Int) (hr : syllogistlaw_flowCode fuel n_0 labels_1 prog_2 = some r) (w : World) (hc : cX w0 ⟨m, l⟩ w) :
    Calls Try.prog 22 [.int .i64 n_0, ulabels_1, uprog_2].toArray w fun e w' => e = .returned (.int .i64 r) ∧ cX w0 ⟨m, l⟩ w' := by
  unfold syllogistlaw_flowCode at hr
  refine calls_of_Tr (N := 33) Try.func22 rfl hc rfl (Nat.le_of_ble_eq_true rfl) ?_
  refine Tr.seq ?_
  refine Tr.region_f (fun _ => false) ?_
  refine W.q rfl rfl rfl rfl (by decide) (Yd.as rfl .c) ?_
  refine W.end ?_
  refine NX.sub (env' := [(0, _), (1, _), (2, _)]) ⟨rfl, rfl, rfl, trivial⟩ ?_
  refine NX.then ?_
  refine Tr.seq ?_
  obtain ⟨r1, hr2, hr⟩ := bind_some hr
  refine Tr.region_f (fun _ => false) ?_
  refine W.q rfl rfl rfl rfl (by decide) (Yd.mv rfl (.t rfl)) ?_
  refine W.q rfl rfl rfl rfl (by decide) (Yd.mv rfl (.t rfl)) ?_
  refine W.q rfl rfl rfl rfl (by decide) (Yd.call (v := .int .i64 r1) rfl Try.func18 rfl rfl (.cons (.t rfl) (.cons (.t rfl) .nil)) (fun x' hx w hw => syllogistref_ProgCheck_ok w0 x'.m x'.l fuel n_0 _ _ (hprog_2.mono hx.1) _ hr2 w hw)) ?_
  refine W.q rfl rfl rfl rfl (by decide) (Yd.as rfl (.t rfl)) ?_
  refine W.end ?_
  refine NX.sub (env' := [(0, _), (1, _), (7, _)]) ⟨rfl, rfl, rfl, trivial⟩ ?_
  refine NX.then ?_
  refine Tr.seq ?_
  refine Tr.seq ?_
  refine Tr.region_f (fun _ => false) ?_
  refine W.q rfl rfl rfl rfl (by decide) (Yd.mv rfl (.t rfl)) ?_
  refine W.q rfl rfl rfl rfl (by decide) (Yd.eql rfl (.t rfl) .c) ?_
  refine W.q rfl rfl rfl rfl (by decide) (Yd.mv rfl (.t rfl)) ?_
  refine W.g rfl rfl rfl rfl rfl (.t rfl _) rfl (by decide) (fun hG => Yd.mv rfl (.t rfl)) ?_
  refine W.g rfl rfl rfl rfl rfl (.t rfl _) rfl (by decide) (fun hG => Yd.lenR hlabels_1 rfl Try.underlying22 (.g rfl hG)) ?_
  refine W.g rfl rfl rfl rfl rfl (.t rfl _) rfl (by decide) (fun hG => Yd.mv rfl (.t rfl)) ?_
  refine W.g rfl rfl rfl rfl rfl (.t rfl _) rfl (by decide) (fun hG => Yd.neq rfl (.g rfl hG) (.g rfl hG)) ?_
  refine W.q rfl rfl rfl rfl (by decide) (Yd.and rfl (.t rfl) .c rfl rfl) ?_
  refine W.end ?_
  refine NX.sub (env' := [(1, _), (7, _), (20, _)]) ⟨rfl, rfl, rfl, trivial⟩ ?_
  refine NX.then ?_
  refine Tr.join (S := fun env x => ∃ x_3 : Int, env = [(1, ulabels_1), (7, .int .i64 x_3)] ∧ x = ⟨m, l⟩ ∧ syllogistlaw_flowCode_k4 labels_1 x_3 = some r) ?_ (fun hk5 => ?_)
  · rintro _ _ ⟨x_3, rfl, rfl, hr⟩
    unfold syllogistlaw_flowCode_k4 at hr
    try dsimp only at hr
    refine NX.then ?_
    refine Tr.seq ?_
    refine Tr.seq ?_
    refine Tr.region_f (fun _ => false) ?_
    refine W.q rfl rfl rfl rfl (by decide) (Yd.mv rfl (.t rfl)) ?_
    refine W.q rfl rfl rfl rfl (by decide) (Yd.lenR hlabels_1 rfl Try.underlying22 (.t rfl)) ?_
    refine W.q rfl rfl rfl rfl (by decide) (Yd.mv rfl .c) ?_
    refine W.end ?_
    refine NX.sub (env' := [(7, _), (21, _), (22, _), (23, _)]) ⟨rfl, rfl, rfl, rfl, trivial⟩ ?_
    refine NX.then ?_
    refine Tr.join (S := fun env x => ∃ x_10 : Int, env = [(7, .int .i64 x_10)] ∧ x = ⟨m, l⟩ ∧ syllogistlaw_flowCode_k11 x_10 = some r) ?_ (fun hk12 => ?_)
    · rintro _ _ ⟨x_10, rfl, rfl, hr⟩
      unfold syllogistlaw_flowCode_k11 at hr
      try dsimp only at hr
      refine NX.then ?_
      refine Tr.seq ?_
      refine Tr.region_f (fun _ => false) ?_
      refine W.q rfl rfl rfl rfl (by decide) (Yd.mv rfl (.t rfl)) ?_
      refine W.q rfl rfl rfl rfl (by decide) (Yd.as rfl (.t rfl)) ?_
      refine W.end ?_
      refine NX.sub (env' := [(6, _)]) ⟨rfl, trivial⟩ ?_
      refine NX.then ?_
      refine Tr.ret' ?_
      refine res1 rfl rfl ?_
      intro w hc
      cases hr
      exact ⟨rfl, hc⟩
    have hlen13 := (hlabels_1).2.1
    refine Tr.block ?_
    refine Tr.sub (env' := [(7, _), (21, _), (22, _), (23, _)]) ⟨rfl, rfl, rfl, rfl, trivial⟩ ?_
    refine Tr.loop (S := fun n (z : Int × Int) env x => match z with | (t_14, x_8) => env = [(7, .int .i64 x_8), (21, ulabels_1), (22, .int .i64 ((labels_1.length : Int))), (23, .int .i64 t_14)] ∧ x = ⟨m, l⟩ ∧ n = ((labels_1.length : Int) - t_14).toNat ∧ 0 ≤ t_14 ∧ forK (σ := Int) (fun i s nx_ => syllogistlaw_flowCode_b15 labels_1 i s nx_) (fun s => syllogistlaw_flowCode_k11 s) n t_14 x_8 = some r) _ ((0 : Int), x_3) ⟨rfl, rfl, rfl, (by omega), hr⟩ ?_
    rintro n17 ⟨t_14, x_8⟩ env x ⟨rfl, rfl, hnt_14, h0t_14, hr⟩
    cases n17 with
    | zero =>
      simp only [forK] at hr
      refine Tr.seq ?_
      refine Tr.region_f (fun _ => false) ?_
      refine W.q rfl rfl rfl rfl (by decide) (Yd.lss rfl (.t rfl) (.t rfl)) ?_
      refine W.end ?_
      refine NX.sub (env' := [(7, _), (21, _), (22, _), (23, _), (24, _)]) ⟨rfl, rfl, rfl, rfl, rfl, trivial⟩ ?_
      refine NX.then ?_
      refine Tr.seq ?_
      refine Tr.cond (.t rfl) (fun hb => ?_) (fun hb => ?_)
      · exact absurd (hb.symm.trans (fr_end hnt_14)) (by decide)
      ·
        refine Tr.exit' (EX.then (EX.then (EX.block ?_)))
        refine NX.sub (env' := [(7, _)]) ⟨rfl, trivial⟩ ?_
        exact hk12 _ _ ⟨_, rfl, rfl, hr⟩
    | succ n17 =>
      obtain ⟨nx16, hnx16, hr⟩ := forK_succ hr
      try dsimp only at hr
      unfold syllogistlaw_flowCode_b15 at hr
      try dsimp only at hr
      have hltt_14 := fr_bnd hnt_14
      refine Tr.seq ?_
      refine Tr.region_f (fun _ => false) ?_
      refine W.q rfl rfl rfl rfl (by decide) (Yd.lss rfl (.t rfl) (.t rfl)) ?_
      refine W.end ?_
      refine NX.sub (env' := [(7, _), (21, _), (22, _), (23, _), (24, _)]) ⟨rfl, rfl, rfl, rfl, rfl, trivial⟩ ?_
      refine NX.then ?_
      refine Tr.seq ?_
      refine Tr.cond (.t rfl) (fun hb => ?_) (fun hb => ?_)
      rotate_left
      · exact absurd (hb.symm.trans (fr_go hnt_14)) (by decide)
      ·
        refine Tr.skip' ?_
        refine NX.then ?_
        refine Tr.seq ?_
        refine Tr.block ?_
        refine Tr.seq ?_
        obtain ⟨y18, hy19, hr⟩ := bind_some hr
        refine Tr.region_f (fun i => Nat.beq i 2 || Nat.beq i 3) ?_
        refine W.q rfl rfl rfl rfl (by decide) (Yd.idxR hlabels_1 hy19 rfl Try.underlying22 SZ65 (.t rfl) (.t rfl)) ?_
        refine W.q rfl rfl rfl rfl (by decide) (Yd.ldFs (us := [_, _]) hlabels_1 (.refl _) hy19 rfl rfl ON65 US65 SZ65 (.t rfl)) ?_
        refine W.e rfl rfl rfl rfl (by decide) (Ef.al rfl ZR65 rfl) ?_
        rintro _ _ ⟨b20, rfl, rfl⟩
        refine ⟨.inl rfl, ?_⟩
        refine W.cast (m' := m) (l' := hcells b20 [_, _] 65 :: l) rfl rfl ?_
        refine W.s rfl rfl rfl rfl (Ef.stB (pos := 0) (us := [_, _]) (cs' := [_, _]) rfl rfl (.t rfl) (.t rfl) SZ65 rfl rfl rfl (Nat.le_of_ble_eq_true rfl) rfl) ?_
        rintro _ _ ⟨rfl, rfl⟩
        refine ⟨.inl rfl, ?_⟩
        refine W.cast (m' := m) (l' := hcells b20 [_, _] 65 :: l) rfl rfl ?_
        refine W.end ?_
        refine NX.sub (env' := [(7, _), (21, _), (22, _), (23, _), (9, _)]) ⟨rfl, rfl, rfl, rfl, rfl, trivial⟩ ?_
        refine NX.then ?_
        refine Tr.seq ?_
        refine Tr.region_f (fun _ => false) ?_
        refine W.q rfl rfl rfl rfl (by decide) (Yd.mv rfl (.t rfl)) ?_
        refine W.q rfl rfl rfl rfl (by decide) (Yd.eql rfl (.t rfl) .c) ?_
        refine W.end ?_
        refine NX.sub (env' := [(7, _), (21, _), (22, _), (23, _), (9, _), (28, _)]) ⟨rfl, rfl, rfl, rfl, rfl, rfl, trivial⟩ ?_
        refine NX.then ?_
        refine Tr.cond (.t rfl) (fun hb => ?_) (fun hb => ?_)
        · have hr := cond_t hb hr
          obtain ⟨r22, hr23, hr⟩ := bind_some hr
          refine Tr.region_f (fun _ => false) ?_
          refine W.q rfl rfl rfl rfl (by decide) (Yd.ldBs (pos := 0) (us := [_, _]) rfl rfl rfl rfl ON65 US65 SZ65 (.t rfl)) ?_
          refine W.q rfl rfl rfl rfl (by decide) (Yd.call (v := .int .i64 r22) rfl Try.func35 rfl rfl (.cons (.t rfl) .nil) (fun x' hx w hw => syllogistref_LabelCheck_ok w0 x'.m x'.l (({ level := y18.level, parts := y18.parts } : Label)) _ hr23 w hw)) ?_
          refine W.q rfl rfl rfl rfl (by decide) (Yd.as rfl (.t rfl)) ?_
          refine W.end ?_
          refine NX.sub (env' := [(7, _), (21, _), (22, _), (23, _)]) ⟨rfl, rfl, rfl, rfl, trivial⟩ ?_
          refine NX.drop (l' := l) (.cons _ (.refl _)) ?_
          refine NX.block ?_
          refine NX.then ?_
          refine Tr.region_f (fun _ => false) ?_
          refine W.q rfl rfl rfl rfl (by decide) (Yd.add rfl (.t rfl) .c) ?_
          refine W.q rfl rfl rfl rfl (by decide) (Yd.mv rfl (.t rfl)) ?_
          refine W.end ?_
          refine NX.sub (env' := [(7, _), (21, _), (22, _), (23, _)]) ⟨rfl, rfl, rfl, rfl, trivial⟩ ?_
          refine NX.sub (env' := [(7, _), (21, _), (22, _), (23, _)]) ⟨rfl, rfl, rfl, rfl, trivial⟩ ?_
          have hw := w64_id (n := t_14 + 1) (by omega) (by omega)
          exact NX.again n17 (t_14 + 1, r22) (Nat.lt_succ_self _) ⟨(by rw [hw] <;> rfl), rfl, (fr_dec hnt_14), (by omega), ((hnx16 _).symm.trans hr)⟩
        · have hr := cond_f hb hr
          refine Tr.skip' ?_
          refine NX.block ?_
          refine NX.then ?_
          refine Tr.region_f (fun _ => false) ?_
          refine W.q rfl rfl rfl rfl (by decide) (Yd.add rfl (.t rfl) .c) ?_
          refine W.q rfl rfl rfl rfl (by decide) (Yd.mv rfl (.t rfl)) ?_
          refine W.end ?_
          refine NX.sub (env' := [(7, _), (21, _), (22, _), (23, _)]) ⟨rfl, rfl, rfl, rfl, trivial⟩ ?_
          refine NX.drop (l' := l) (.cons _ (.refl _)) ?_
          refine NX.sub (env' := [(7, _), (21, _), (22, _), (23, _)]) ⟨rfl, rfl, rfl, rfl, trivial⟩ ?_
          have hw := w64_id (n := t_14 + 1) (by omega) (by omega)
          exact NX.again n17 (t_14 + 1, x_8) (Nat.lt_succ_self _) ⟨(by rw [hw] <;> rfl), rfl, (fr_dec hnt_14), (by omega), ((hnx16 _).symm.trans hr)⟩
  refine Tr.cond (.t rfl) (fun hb => ?_) (fun hb => ?_)
  · have hr := cond_t hb hr
    refine Tr.region_f (fun _ => false) ?_
    refine W.q rfl rfl rfl rfl (by decide) (Yd.as rfl .c) ?_
    refine W.end ?_
    refine NX.sub (env' := [(1, _), (7, _)]) ⟨rfl, rfl, trivial⟩ ?_
    refine NX.sub (env' := [(1, _), (7, _)]) ⟨rfl, rfl, trivial⟩ ?_
    exact hk5 _ _ ⟨_, rfl, rfl, hr⟩
  · have hr := cond_f hb hr
    refine Tr.skip' ?_
    refine NX.sub (env' := [(1, _), (7, _)]) ⟨rfl, rfl, trivial⟩ ?_
    exact hk5 _ _ ⟨_, rfl, rfl, hr⟩

def syllogistref_Both_k8 (a_0 : Label) (b_1 : Label) (c7 : Int) : Option (Label) :=
  some (({ level := c7, parts := (a_0.parts ||| b_1.parts) } : Label))

def syllogistref_Both (a_0 : Label) (b_1 : Label) : Option (Label) :=
  (bif (decide (a_0.level < b_1.level)) then
  syllogistref_Both_k8 a_0 b_1 b_1.level
  else
  syllogistref_Both_k8 a_0 b_1 a_0.level)

set_option maxRecDepth 100000 in
set_option maxHeartbeats 4000000 in
theorem syllogistref_Both_ok (w0 : World) (m : Snap) (l : List HI) (a_0 : Label) (b_1 : Label) (r : Label) (hr : syllogistref_Both a_0 b_1 = some r) (w : World) (hc : cX w0 ⟨m, l⟩ w) :
    Calls Try.prog 37 [.agg #[.int .i64 a_0.level, .int .u32 (a_0.parts.toNat : Int)], .agg #[.int .i64 b_1.level, .int .u32 (b_1.parts.toNat : Int)]].toArray w fun e w' => e = .returned (.agg #[.int .i64 r.level, .int .u32 (r.parts.toNat : Int)]) ∧ cX w0 ⟨m, l⟩ w' := by
  unfold syllogistref_Both at hr
  refine calls_of_Tr (N := 20) Try.func37 rfl hc rfl (Nat.le_of_ble_eq_true rfl) ?_
  refine Tr.seq ?_
  refine Tr.region_f (fun i => Nat.beq i 0 || Nat.beq i 1 || Nat.beq i 2) ?_
  refine W.e rfl rfl rfl rfl (by decide) (Ef.bx rfl (.t rfl) rfl) ?_
  rintro _ _ ⟨b1, rfl, rfl⟩
  refine ⟨.inl rfl, ?_⟩
  refine W.cast (m' := m) (l' := hcells b1 [_, _] 65 :: l) rfl rfl ?_
  refine W.e rfl rfl rfl rfl (by decide) (Ef.bx rfl (.t rfl) rfl) ?_
  rintro _ _ ⟨b3, rfl, rfl⟩
  refine ⟨.inl rfl, ?_⟩
  refine W.cast (m' := m) (l' := hcells b3 [_, _] 65 :: hcells b1 [_, _] 65 :: l) rfl rfl ?_
  refine W.e rfl rfl rfl rfl (by decide) (Ef.al rfl ZR65 rfl) ?_
  rintro _ _ ⟨b5, rfl, rfl⟩
  refine ⟨.inl rfl, ?_⟩
  refine W.cast (m' := m) (l' := hcells b5 [_, _] 65 :: hcells b3 [_, _] 65 :: hcells b1 [_, _] 65 :: l) rfl rfl ?_
  refine W.end ?_
  refine NX.sub (env' := [(2, _), (3, _), (4, _)]) ⟨rfl, rfl, rfl, trivial⟩ ?_
  refine NX.then ?_
  refine Tr.seq ?_
  refine Tr.seq ?_
  refine Tr.region_f (fun _ => false) ?_
  refine W.q rfl rfl rfl rfl (by decide) (Yd.fldB rfl Try.underlying65 rfl SZ3 rfl (.t rfl)) ?_
  refine W.q rfl rfl rfl rfl (by decide) (Yd.ldB (pos := 2) rfl rfl rfl ON3 (.t rfl)) ?_
  refine W.q rfl rfl rfl rfl (by decide) (Yd.fldB rfl Try.underlying65 rfl SZ3 rfl (.t rfl)) ?_
  refine W.q rfl rfl rfl rfl (by decide) (Yd.ldB (pos := 1) rfl rfl rfl ON3 (.t rfl)) ?_
  refine W.q rfl rfl rfl rfl (by decide) (Yd.lss rfl (.t rfl) (.t rfl)) ?_
  refine W.end ?_
  refine NX.sub (env' := [(2, _), (3, _), (4, _), (9, _)]) ⟨rfl, rfl, rfl, rfl, trivial⟩ ?_
  refine NX.then ?_
  refine Tr.join (S := fun env x => ∃ c7 : Int, env = [(2, bp b1 0), (3, bp b3 0), (4, bp b5 0)] ∧ x = ⟨m, hcells b5 [.int .i64 ((0 : Int)), .int .u32 (((0#32)).toNat : Int)] 65 :: hcells b3 [.int .i64 b_1.level, .int .u32 (b_1.parts.toNat : Int)] 65 :: hcells b1 [.int .i64 c7, .int .u32 (a_0.parts.toNat : Int)] 65 :: l⟩ ∧ syllogistref_Both_k8 a_0 b_1 c7 = some r) ?_ (fun hk9 => ?_)
  · rintro _ _ ⟨c7, rfl, rfl, hr⟩
    unfold syllogistref_Both_k8 at hr
    try dsimp only at hr
    refine NX.then ?_
    refine Tr.seq ?_
    refine Tr.region_f (fun i => Nat.beq i 6) ?_
    refine W.q rfl rfl rfl rfl (by decide) (Yd.fldB rfl Try.underlying65 rfl SZ63 rfl (.t rfl)) ?_
    refine W.q rfl rfl rfl rfl (by decide) (Yd.ldB (pos := 2) rfl rfl rfl ON63 (.t rfl)) ?_
    refine W.q rfl rfl rfl rfl (by decide) (Yd.fldB rfl Try.underlying65 rfl SZ63 rfl (.t rfl)) ?_
    refine W.q rfl rfl rfl rfl (by decide) (Yd.ldB (pos := 1) rfl rfl rfl ON63 (.t rfl)) ?_
    refine W.q rfl rfl rfl rfl (by decide) (Yd.orU (a := a_0.parts) (b := b_1.parts) rfl (.t rfl) (.t rfl)) ?_
    refine W.q rfl rfl rfl rfl (by decide) (Yd.fldB rfl Try.underlying65 rfl SZ63 rfl (.t rfl)) ?_
    refine W.s rfl rfl rfl rfl (Ef.stB (pos := 2) (us := [_]) (cs' := [_, _]) rfl rfl (.t rfl) (.t rfl) SZ63 rfl rfl rfl (Nat.le_of_ble_eq_true rfl) rfl) ?_
    rintro _ _ ⟨rfl, rfl⟩
    refine ⟨.inl rfl, ?_⟩
    refine W.cast (m' := m) (l' := hcells b5 [_, _] 65 :: hcells b3 [_, _] 65 :: hcells b1 [_, _] 65 :: l) rfl rfl ?_
    refine W.end ?_
    refine NX.sub (env' := [(2, _), (4, _)]) ⟨rfl, rfl, trivial⟩ ?_
    refine NX.drop (l' := hcells b5 [_, _] 65 :: hcells b1 [_, _] 65 :: l) (.cons_cons _ (.cons _ (.cons_cons _ (.refl _)))) ?_
    refine NX.then ?_
    refine Tr.seq ?_
    refine Tr.region_f (fun i => Nat.beq i 1) ?_
    refine W.q rfl rfl rfl rfl (by decide) (Yd.ldBs (pos := 1) (us := [_, _]) rfl rfl rfl rfl ON65 US65 SZ65 (.t rfl)) ?_
    refine W.s rfl rfl rfl rfl (Ef.stB (pos := 0) (us := [_, _]) (cs' := [_, _]) rfl rfl (.t rfl) (.t rfl) SZ65 rfl rfl rfl (Nat.le_of_ble_eq_true rfl) rfl) ?_
    rintro _ _ ⟨rfl, rfl⟩
    refine ⟨.inl rfl, ?_⟩
    refine W.cast (m' := m) (l' := hcells b5 [_, _] 65 :: hcells b1 [_, _] 65 :: l) rfl rfl ?_
    refine W.end ?_
    refine NX.sub (env' := [(4, _)]) ⟨rfl, trivial⟩ ?_
    refine NX.drop (l' := hcells b5 [_, _] 65 :: l) (.cons_cons _ (.cons _ (.refl _))) ?_
    refine NX.then ?_
    refine Tr.ret' ?_
    refine resV1 rfl (Rv.cs (pos := 0) rfl rfl rfl ON65 US65 SZ65) ?_
    intro w hc
    cases hr
    exact ⟨rfl, (cX_sub (.cons _ (.refl _)) hc)⟩
  refine Tr.cond (.t rfl) (fun hb => ?_) (fun hb => ?_)
  · have hr := cond_t hb hr
    refine Tr.region_f (fun i => Nat.beq i 3) ?_
    refine W.q rfl rfl rfl rfl (by decide) (Yd.fldB rfl Try.underlying65 rfl SZ3 rfl (.t rfl)) ?_
    refine W.q rfl rfl rfl rfl (by decide) (Yd.ldB (pos := 1) rfl rfl rfl ON3 (.t rfl)) ?_
    refine W.q rfl rfl rfl rfl (by decide) (Yd.fldB rfl Try.underlying65 rfl SZ3 rfl (.t rfl)) ?_
    refine W.s rfl rfl rfl rfl (Ef.stB (pos := 2) (us := [_]) (cs' := [_, _]) rfl rfl (.t rfl) (.t rfl) SZ3 rfl rfl rfl (Nat.le_of_ble_eq_true rfl) rfl) ?_
    rintro _ _ ⟨rfl, rfl⟩
    refine ⟨.inl rfl, ?_⟩
    refine W.cast (m' := m) (l' := hcells b5 [_, _] 65 :: hcells b3 [_, _] 65 :: hcells b1 [_, _] 65 :: l) rfl rfl ?_
    refine W.end ?_
    refine NX.sub (env' := [(2, _), (3, _), (4, _)]) ⟨rfl, rfl, rfl, trivial⟩ ?_
    refine NX.sub (env' := [(2, _), (3, _), (4, _)]) ⟨rfl, rfl, rfl, trivial⟩ ?_
    exact hk9 _ _ ⟨_, rfl, rfl, hr⟩
  · have hr := cond_f hb hr
    refine Tr.skip' ?_
    refine NX.sub (env' := [(2, _), (3, _), (4, _)]) ⟨rfl, rfl, rfl, trivial⟩ ?_
    exact hk9 _ _ ⟨_, rfl, rfl, hr⟩

def syllogistref_Needs_k12 (l10 : List Deed) : Option ((List Deed)) :=
  some l10

def syllogistref_Needs_k36 (l8 : List Deed) (nx17 : ((List Deed) → Option ((List Deed)))) (y19 : Line) (c34 : Int) (c35 : BitVec 32) : Option ((List Deed)) :=
  bif decide (l8.length + (([({ kind := (0 : Int), by_ := (0 : Int), to := y19.to, label := ({ level := c34, parts := c35 } : Label), val := (0 : Int) } : Deed)] : List Deed)).length ≤ 2932031007402) then
  nx17 (l8 ++ ([({ kind := (0 : Int), by_ := (0 : Int), to := y19.to, label := ({ level := c34, parts := c35 } : Label), val := (0 : Int) } : Deed)] : List Deed)) else none

def syllogistref_Needs_k32 (labels_1 : List Label) (slf : ((List Line) → (List Label) → Label → Option ((List Deed)))) (l8 : List Deed) (nx17 : ((List Deed) → Option ((List Deed)))) (y19 : Line) (c30 : Int) (c31 : BitVec 32) : Option ((List Deed)) :=
  (bif (y19.kind == (1 : Int)) then
  (bif (decide (y19.b ≥ (0 : Int))) then
  (geti labels_1 y19.b).bind fun y42 =>
  (syllogistref_Both (({ level := c30, parts := c31 } : Label)) y42).bind fun r44 =>
  syllogistref_Needs_k36 l8 nx17 y19 r44.level r44.parts
  else
  syllogistref_Needs_k36 l8 nx17 y19 c30 c31)
  else
  (bif (y19.kind == (2 : Int)) then
  (slf y19.body labels_1 (({ level := c30, parts := c31 } : Label))).bind fun r46 =>
  bif decide (l8.length + r46.length ≤ 2932031007402) then
  (slf y19.els labels_1 (({ level := c30, parts := c31 } : Label))).bind fun r52 =>
  bif decide (((l8 ++ r46)).length + r52.length ≤ 2932031007402) then
  nx17 ((l8 ++ r46) ++ r52) else none else none
  else
  (bif (y19.kind == (3 : Int)) then
  (slf y19.body labels_1 (({ level := c30, parts := c31 } : Label))).bind fun r64 =>
  bif decide (l8.length + r64.length ≤ 2932031007402) then
  nx17 (l8 ++ r64) else none
  else
  nx17 l8)))

def syllogistref_Needs_b16 (prog_0 : List Line) (labels_1 : List Label) (c_2 : Label) (slf : ((List Line) → (List Label) → Label → Option ((List Deed)))) (t_15 : Int) (l8 : List Deed) (nx17 : (List Deed) → Option ((List Deed))) : Option ((List Deed)) :=
  (geti prog_0 t_15).bind fun y19 =>
  (bif (decide (y19.a ≥ (0 : Int))) then
  (geti labels_1 y19.a).bind fun y70 =>
  (syllogistref_Both (({ level := c_2.level, parts := c_2.parts } : Label)) y70).bind fun r72 =>
  syllogistref_Needs_k32 labels_1 slf l8 nx17 y19 r72.level r72.parts
  else
  syllogistref_Needs_k32 labels_1 slf l8 nx17 y19 c_2.level c_2.parts)

def syllogistref_Needs_s (slf : ((List Line) → (List Label) → Label → Option ((List Deed)))) (prog_0 : List Line) (labels_1 : List Label) (c_2 : Label) : Option ((List Deed)) :=
  forK (σ := (List Deed)) (fun i s nx_ => syllogistref_Needs_b16 prog_0 labels_1 c_2 slf i s nx_) (fun s => syllogistref_Needs_k12 s) ((prog_0.length : Int) - (0 : Int)).toNat (0 : Int) (([] : List Deed))

def syllogistref_Needs (fuel : Nat) (prog_0 : List Line) (labels_1 : List Label) (c_2 : Label) : Option ((List Deed)) :=
  match fuel with
  | 0 => none
  | fuel + 1 => syllogistref_Needs_s (syllogistref_Needs fuel) prog_0 labels_1 c_2

set_option maxRecDepth 100000 in
set_option maxHeartbeats 4000000 in
theorem syllogistref_Needs_ok (w0 : World) (m : Snap) (l : List HI) (fuel : Nat) : ∀ (uprog_0 : Value) (prog_0 : List Line) (hprog_0 : RS rLine m uprog_0 prog_0) (ulabels_1 : Value) (labels_1 : List Label) (hlabels_1 : RS rLabel m ulabels_1 labels_1) (c_2 : Label) (r : (List Deed)) (_ : syllogistref_Needs fuel prog_0 labels_1 c_2 = some r) (w : World) (_ : cX w0 ⟨m, l⟩ w),
    Calls Try.prog 50 [uprog_0, ulabels_1, .agg #[.int .i64 c_2.level, .int .u32 (c_2.parts.toNat : Int)]].toArray w fun e w' => ∃ z0 : Value, e = .returned (z0) ∧ cX w0 ⟨m, hownT 67 6 Deed.enc z0 r :: l⟩ w' := by
  induction fuel generalizing m l with
  | zero => intro uprog_0 prog_0 hprog_0 ulabels_1 labels_1 hlabels_1 c_2 r hr; simp [syllogistref_Needs] at hr
  | succ fuel ih =>
  intro uprog_0 prog_0 hprog_0 ulabels_1 labels_1 hlabels_1 c_2 r hr w hc
  replace hr : syllogistref_Needs_s (syllogistref_Needs fuel) prog_0 labels_1 c_2 = some r := hr
  obtain ⟨slf, hslf⟩ : ∃ f, f = syllogistref_Needs fuel := ⟨_, rfl⟩
  rw [← hslf] at hr ih
  unfold syllogistref_Needs_s at hr
  refine calls_of_Tr (N := 75) Try.func50 rfl hc rfl (Nat.le_of_ble_eq_true rfl) ?_
  refine Tr.seq ?_
  refine Tr.region_f (fun i => Nat.beq i 0) ?_
  refine W.e rfl rfl rfl rfl (by decide) (Ef.bx rfl (.t rfl) rfl) ?_
  rintro _ _ ⟨b1, rfl, rfl⟩
  refine ⟨.inl rfl, ?_⟩
  refine W.cast (m' := m) (l' := hcells b1 [_, _] 65 :: l) rfl rfl ?_
  refine W.q rfl rfl rfl rfl (by decide) (Yd.as rfl .c) ?_
  refine W.end ?_
  refine NX.sub (env' := [(0, _), (1, _), (5, _)]) ⟨rfl, rfl, rfl, trivial⟩ ?_
  refine NX.then ?_
  refine Tr.seq ?_
  refine Tr.region_f (fun _ => false) ?_
  refine W.q rfl rfl rfl rfl (by decide) (Yd.as rfl .c) ?_
  refine W.end ?_
  refine NX.sub (env' := [(0, _), (1, _), (5, _), (7, _)]) ⟨rfl, rfl, rfl, rfl, trivial⟩ ?_
  refine NX.then ?_
  refine Tr.seq ?_
  refine Tr.seq ?_
  refine Tr.region_f (fun _ => false) ?_
  refine W.q rfl rfl rfl rfl (by decide) (Yd.mv rfl (.t rfl)) ?_
  refine W.q rfl rfl rfl rfl (by decide) (Yd.lenR hprog_0 rfl Try.underlying37 (.t rfl)) ?_
  refine W.q rfl rfl rfl rfl (by decide) (Yd.mv rfl .c) ?_
  refine W.end ?_
  refine NX.sub (env' := [(1, _), (5, _), (7, _), (11, _), (12, _), (13, _)]) ⟨rfl, rfl, rfl, rfl, rfl, rfl, trivial⟩ ?_
  refine NX.then ?_
  refine Tr.addnil 67 6 ?_
  refine Tr.join (S := fun env x => ∃ l10 : List Deed, ∃ v11 : Value, env = [(7, v11)] ∧ x = ⟨m, hownT 67 6 Deed.enc v11 l10 :: l⟩ ∧ syllogistref_Needs_k12 l10 = some r) ?_ (fun hk13 => ?_)
  · rintro _ _ ⟨l10, v11, rfl, rfl, hr⟩
    unfold syllogistref_Needs_k12 at hr
    try dsimp only at hr
    refine NX.then ?_
    refine Tr.seq ?_
    refine Tr.region_f (fun _ => false) ?_
    refine W.q rfl rfl rfl rfl (by decide) (Yd.mv rfl (.t rfl)) ?_
    refine W.q rfl rfl rfl rfl (by decide) (Yd.as rfl (.t rfl)) ?_
    refine W.end ?_
    refine NX.sub (env' := [(6, _)]) ⟨rfl, trivial⟩ ?_
    refine NX.then ?_
    refine Tr.ret' ?_
    refine res1 rfl rfl ?_
    intro w hc
    cases hr
    exact ⟨_, rfl, hc⟩
  have hlen14 := (hprog_0).2.1
  refine Tr.block ?_
  refine Tr.sub (env' := [(1, _), (5, _), (7, _), (11, _), (12, _), (13, _)]) ⟨rfl, rfl, rfl, rfl, rfl, rfl, trivial⟩ ?_
  refine Tr.loop (S := fun n (z : Int × (List Deed)) env x => match z with | (t_15, l8) => ∃ v9 : Value, env = [(1, ulabels_1), (5, bp b1 0), (7, v9), (11, uprog_0), (12, .int .i64 ((prog_0.length : Int))), (13, .int .i64 t_15)] ∧ x = ⟨m, hownT 67 6 Deed.enc v9 l8 :: hcells b1 [.int .i64 c_2.level, .int .u32 (c_2.parts.toNat : Int)] 65 :: l⟩ ∧ n = ((prog_0.length : Int) - t_15).toNat ∧ 0 ≤ t_15 ∧ forK (σ := (List Deed)) (fun i s nx_ => syllogistref_Needs_b16 prog_0 labels_1 c_2 slf i s nx_) (fun s => syllogistref_Needs_k12 s) n t_15 l8 = some r) _ ((0 : Int), ([] : List Deed)) ⟨_, rfl, rfl, rfl, (by omega), hr⟩ ?_
  rintro n18 ⟨t_15, l8⟩ env x ⟨v9, rfl, rfl, hnt_15, h0t_15, hr⟩
  cases n18 with
  | zero =>
    simp only [forK] at hr
    refine Tr.seq ?_
    refine Tr.region_f (fun _ => false) ?_
    refine W.q rfl rfl rfl rfl (by decide) (Yd.lss rfl (.t rfl) (.t rfl)) ?_
    refine W.end ?_
    refine NX.sub (env' := [(1, _), (5, _), (7, _), (11, _), (12, _), (13, _), (14, _)]) ⟨rfl, rfl, rfl, rfl, rfl, rfl, rfl, trivial⟩ ?_
    refine NX.then ?_
    refine Tr.seq ?_
    refine Tr.cond (.t rfl) (fun hb => ?_) (fun hb => ?_)
    · exact absurd (hb.symm.trans (fr_end hnt_15)) (by decide)
    ·
      refine Tr.exit' (EX.then (EX.then (EX.block ?_)))
      refine NX.sub (env' := [(7, _)]) ⟨rfl, trivial⟩ ?_
      refine NX.drop (l' := hownT 67 6 Deed.enc v9 _ :: l) (.cons_cons _ (.cons _ (.refl _))) ?_
      exact hk13 _ _ ⟨_, _, rfl, rfl, hr⟩
  | succ n18 =>
    obtain ⟨nx17, hnx17, hr⟩ := forK_succ hr
    try dsimp only at hr
    unfold syllogistref_Needs_b16 at hr
    try dsimp only at hr
    have hltt_15 := fr_bnd hnt_15
    refine Tr.seq ?_
    refine Tr.region_f (fun _ => false) ?_
    refine W.q rfl rfl rfl rfl (by decide) (Yd.lss rfl (.t rfl) (.t rfl)) ?_
    refine W.end ?_
    refine NX.sub (env' := [(1, _), (5, _), (7, _), (11, _), (12, _), (13, _), (14, _)]) ⟨rfl, rfl, rfl, rfl, rfl, rfl, rfl, trivial⟩ ?_
    refine NX.then ?_
    refine Tr.seq ?_
    refine Tr.cond (.t rfl) (fun hb => ?_) (fun hb => ?_)
    rotate_left
    · exact absurd (hb.symm.trans (fr_go hnt_15)) (by decide)
    ·
      refine Tr.skip' ?_
      refine NX.then ?_
      refine Tr.seq ?_
      refine Tr.block ?_
      refine Tr.seq ?_
      obtain ⟨y19, hy20, hr⟩ := bind_some hr
      refine Tr.region_f (fun i => Nat.beq i 2 || Nat.beq i 3) ?_
      refine W.q rfl rfl rfl rfl (by decide) (Yd.idxR hprog_0 hy20 rfl Try.underlying37 SZ86 (.t rfl) (.t rfl)) ?_
      obtain ⟨_, ⟨u21, u23, rfl, hu22, hu24⟩, hat25⟩ := rLine_el hprog_0 hy20
      refine W.q rfl rfl rfl rfl (by decide) (Yd.ldRs hat25 (.refl _) rfl ON86 US86 SZ86 rfl (.t rfl)) ?_
      refine W.e rfl rfl rfl rfl (by decide) (Ef.al rfl ZR86 rfl) ?_
      rintro _ _ ⟨b26, rfl, rfl⟩
      refine ⟨.inl rfl, ?_⟩
      refine W.cast (m' := m) (l' := hcells b26 [_, _, _, _, _, _, _] 86 :: hownT 67 6 Deed.enc v9 _ :: hcells b1 [_, _] 65 :: l) rfl rfl ?_
      refine W.s rfl rfl rfl rfl (Ef.stBs (pos := 0) (us := [.int .i64 y19.kind, .int .i64 y19.to, .int .i64 y19.a, .int .i64 y19.b, .int .i64 y19.val, u21, u23]) (cs' := [_, _, _, _, _, _, _]) (.cons (On.lit rfl) (.cons (On.lit rfl) (.cons (On.lit rfl) (.cons (On.lit rfl) (.cons (On.lit rfl) (.cons (On.ro hu22) (.cons (On.ro hu24) .nil))))))) rfl rfl (.t rfl) (.t rfl) SZ86 rfl rfl (Nat.le_of_ble_eq_true rfl) rfl) ?_
      rintro _ _ ⟨rfl, rfl⟩
      refine ⟨.inl rfl, ?_⟩
      refine W.cast (m' := m) (l' := hcells b26 [_, _, _, _, _, _, _] 86 :: hownT 67 6 Deed.enc v9 _ :: hcells b1 [_, _] 65 :: l) rfl rfl ?_
      refine W.end ?_
      refine NX.sub (env' := [(1, _), (5, _), (7, _), (11, _), (12, _), (13, _), (9, _)]) ⟨rfl, rfl, rfl, rfl, rfl, rfl, rfl, trivial⟩ ?_
      refine NX.then ?_
      refine Tr.seq ?_
      refine Tr.region_f (fun i => Nat.beq i 1 || Nat.beq i 2) ?_
      refine W.q rfl rfl rfl rfl (by decide) (Yd.ldBs (pos := 2) (us := [_, _]) rfl rfl rfl rfl ON65 US65 SZ65 (.t rfl)) ?_
      refine W.e rfl rfl rfl rfl (by decide) (Ef.al rfl ZR65 rfl) ?_
      rintro _ _ ⟨b28, rfl, rfl⟩
      refine ⟨.inl rfl, ?_⟩
      refine W.cast (m' := m) (l' := hcells b28 [_, _] 65 :: hcells b26 [_, _, _, _, _, _, _] 86 :: hownT 67 6 Deed.enc v9 _ :: hcells b1 [_, _] 65 :: l) rfl rfl ?_
      refine W.s rfl rfl rfl rfl (Ef.stB (pos := 0) (us := [_, _]) (cs' := [_, _]) rfl rfl (.t rfl) (.t rfl) SZ65 rfl rfl rfl (Nat.le_of_ble_eq_true rfl) rfl) ?_
      rintro _ _ ⟨rfl, rfl⟩
      refine ⟨.inl rfl, ?_⟩
      refine W.cast (m' := m) (l' := hcells b28 [_, _] 65 :: hcells b26 [_, _, _, _, _, _, _] 86 :: hownT 67 6 Deed.enc v9 _ :: hcells b1 [_, _] 65 :: l) rfl rfl ?_
      refine W.end ?_
      refine NX.sub (env' := [(1, _), (5, _), (7, _), (11, _), (12, _), (13, _), (9, _), (10, _)]) ⟨rfl, rfl, rfl, rfl, rfl, rfl, rfl, rfl, trivial⟩ ?_
      refine NX.then ?_
      refine Tr.seq ?_
      refine Tr.seq ?_
      refine Tr.region_f (fun _ => false) ?_
      refine W.q rfl rfl rfl rfl (by decide) (Yd.fldB rfl Try.underlying86 rfl SZ3 rfl (.t rfl)) ?_
      refine W.q rfl rfl rfl rfl (by decide) (Yd.ldB (pos := 1) rfl rfl rfl ON3 (.t rfl)) ?_
      refine W.q rfl rfl rfl rfl (by decide) (Yd.geq rfl (.t rfl) .c) ?_
      refine W.end ?_
      refine NX.sub (env' := [(1, _), (5, _), (7, _), (11, _), (12, _), (13, _), (9, _), (10, _), (20, _)]) ⟨rfl, rfl, rfl, rfl, rfl, rfl, rfl, rfl, rfl, trivial⟩ ?_
      refine NX.then ?_
      refine Tr.join (S := fun env x => ∃ c30 : Int, ∃ c31 : BitVec 32, env = [(1, ulabels_1), (5, bp b1 0), (7, v9), (11, uprog_0), (12, .int .i64 ((prog_0.length : Int))), (13, .int .i64 t_15), (9, bp b26 0), (10, bp b28 0)] ∧ x = ⟨m, hcells b28 [.int .i64 c30, .int .u32 (c31.toNat : Int)] 65 :: hcells b26 [.int .i64 y19.kind, .int .i64 y19.to, .int .i64 y19.a, .int .i64 y19.b, .int .i64 y19.val, u21, u23] 86 :: hownT 67 6 Deed.enc v9 l8 :: hcells b1 [.int .i64 c_2.level, .int .u32 (c_2.parts.toNat : Int)] 65 :: l⟩ ∧ syllogistref_Needs_k32 labels_1 slf l8 nx17 y19 c30 c31 = some r) ?_ (fun hk33 => ?_)
      · rintro _ _ ⟨c30, c31, rfl, rfl, hr⟩
        unfold syllogistref_Needs_k32 at hr
        try dsimp only at hr
        refine NX.then ?_
        refine Tr.seq ?_
        refine Tr.region_f (fun _ => false) ?_
        refine W.q rfl rfl rfl rfl (by decide) (Yd.fldB rfl Try.underlying86 rfl SZ3 rfl (.t rfl)) ?_
        refine W.q rfl rfl rfl rfl (by decide) (Yd.ldB (pos := 1) rfl rfl rfl ON3 (.t rfl)) ?_
        refine W.end ?_
        refine NX.sub (env' := [(1, _), (5, _), (7, _), (11, _), (12, _), (13, _), (9, _), (10, _), (29, _)]) ⟨rfl, rfl, rfl, rfl, rfl, rfl, rfl, rfl, rfl, trivial⟩ ?_
        refine NX.then ?_
        refine Tr.block ?_
        refine Tr.seq ?_
        refine Tr.region_f (fun _ => false) ?_
        refine W.q rfl rfl rfl rfl (by decide) (Yd.eql rfl (.t rfl) .c) ?_
        refine W.q rfl rfl rfl rfl (by decide) (Yd.as rfl (.t rfl)) ?_
        refine W.end ?_
        refine NX.sub (env' := [(1, _), (5, _), (7, _), (11, _), (12, _), (13, _), (9, _), (10, _), (29, _), (30, _)]) ⟨rfl, rfl, rfl, rfl, rfl, rfl, rfl, rfl, rfl, rfl, trivial⟩ ?_
        refine NX.then ?_
        refine Tr.cond (.t rfl) (fun hb => ?_) (fun hb => ?_)
        · have hr := cond_t hb hr
          refine Tr.seq ?_
          refine Tr.seq ?_
          refine Tr.region_f (fun _ => false) ?_
          refine W.q rfl rfl rfl rfl (by decide) (Yd.fldB rfl Try.underlying86 rfl SZ3 rfl (.t rfl)) ?_
          refine W.q rfl rfl rfl rfl (by decide) (Yd.ldB (pos := 1) rfl rfl rfl ON3 (.t rfl)) ?_
          refine W.q rfl rfl rfl rfl (by decide) (Yd.geq rfl (.t rfl) .c) ?_
          refine W.end ?_
          refine NX.sub (env' := [(1, _), (5, _), (7, _), (11, _), (12, _), (13, _), (9, _), (10, _), (34, _)]) ⟨rfl, rfl, rfl, rfl, rfl, rfl, rfl, rfl, rfl, trivial⟩ ?_
          refine NX.then ?_
          refine Tr.join (S := fun env x => ∃ c34 : Int, ∃ c35 : BitVec 32, env = [(1, ulabels_1), (5, bp b1 0), (7, v9), (11, uprog_0), (12, .int .i64 ((prog_0.length : Int))), (13, .int .i64 t_15), (9, bp b26 0), (10, bp b28 0)] ∧ x = ⟨m, hcells b28 [.int .i64 c34, .int .u32 (c35.toNat : Int)] 65 :: hcells b26 [.int .i64 y19.kind, .int .i64 y19.to, .int .i64 y19.a, .int .i64 y19.b, .int .i64 y19.val, u21, u23] 86 :: hownT 67 6 Deed.enc v9 l8 :: hcells b1 [.int .i64 c_2.level, .int .u32 (c_2.parts.toNat : Int)] 65 :: l⟩ ∧ syllogistref_Needs_k36 l8 nx17 y19 c34 c35 = some r) ?_ (fun hk37 => ?_)
          · rintro _ _ ⟨c34, c35, rfl, rfl, hr⟩
            unfold syllogistref_Needs_k36 at hr
            try dsimp only at hr
            refine NX.then ?_
            obtain ⟨hq41, hr⟩ := guard_some hr; replace hq41 := of_decide_eq_true hq41
            refine Tr.region_f (fun i => Nat.beq i 5 || Nat.beq i 6) ?_
            refine W.q rfl rfl rfl rfl (by decide) (Yd.mv rfl (.t rfl)) ?_
            refine W.q rfl rfl rfl rfl (by decide) (Yd.fldB rfl Try.underlying86 rfl SZ3 rfl (.t rfl)) ?_
            refine W.q rfl rfl rfl rfl (by decide) (Yd.ldB (pos := 1) rfl rfl rfl ON3 (.t rfl)) ?_
            refine W.q rfl rfl rfl rfl (by decide) (Yd.ldBs (pos := 0) (us := [_, _]) rfl rfl rfl rfl ON65 US65 SZ65 (.t rfl)) ?_
            refine W.q rfl rfl rfl rfl (by decide) (Yd.bld (cells := [.int .i64 ((0 : Int)), .int .i64 ((0 : Int)), .int .i64 y19.to, .int .i64 c34, .int .u32 (c35.toNat : Int), .int .i64 ((0 : Int))]) rfl ZI67 PL67 (.cons (.t rfl) (.cons (.t rfl) .nil)) rfl) ?_
            refine W.e rfl rfl rfl rfl (by decide) (Ef.bsT (enc := Deed.enc) (vs := [_]) (ys := [({ kind := (0 : Int), by_ := (0 : Int), to := y19.to, label := ({ level := c34, parts := c35 } : Label), val := (0 : Int) } : Deed)]) (fun _ => rfl) IF67 rfl Try.underlying23 (by decide) rfl (.cons (.t rfl) .nil) rfl rfl (by decide)) ?_
            rintro v38 _ rfl
            refine ⟨.inl rfl, ?_⟩
            refine W.cast (m' := m) (l' := hownT 67 6 Deed.enc v38 _ :: hcells b28 [_, _] 65 :: hcells b26 [_, _, _, _, _, _, _] 86 :: hownT 67 6 Deed.enc v9 _ :: hcells b1 [_, _] 65 :: l) rfl rfl ?_
            refine W.e rfl rfl rfl rfl (by decide) (Ef.apI (pos := 3) (enc := Deed.enc) (xs := l8) (ys := ([({ kind := (0 : Int), by_ := (0 : Int), to := y19.to, label := ({ level := c34, parts := c35 } : Label), val := (0 : Int) } : Deed)] : List Deed)) (fun _ => rfl) IF67 rfl rfl Try.underlying23 rfl (by decide) (.t rfl) (.t rfl) (Src.own (pos := 0) rfl) (fun _ => rfl) (by omega) (by omega)) ?_
            rintro v40 _ rfl
            refine ⟨.inl rfl, ?_⟩
            refine W.cast (m' := m) (l' := hownT 67 6 Deed.enc v38 _ :: hcells b28 [_, _] 65 :: hcells b26 [_, _, _, _, _, _, _] 86 :: hownT 67 6 Deed.enc v40 _ :: hcells b1 [_, _] 65 :: l) rfl rfl ?_
            refine W.q rfl rfl rfl rfl (by decide) (Yd.as rfl (.t rfl)) ?_
            refine W.end ?_
            refine NX.sub (env' := [(1, _), (5, _), (7, _), (11, _), (12, _), (13, _)]) ⟨rfl, rfl, rfl, rfl, rfl, rfl, trivial⟩ ?_
            refine NX.drop (l' := hownT 67 6 Deed.enc v40 _ :: hcells b1 [_, _] 65 :: l) (.cons _ (.cons _ (.cons _ (.cons_cons _ (.cons_cons _ (.refl _)))))) ?_
            refine NX.block ?_
            refine NX.block ?_
            refine NX.then ?_
            refine Tr.region_f (fun _ => false) ?_
            refine W.q rfl rfl rfl rfl (by decide) (Yd.add rfl (.t rfl) .c) ?_
            refine W.q rfl rfl rfl rfl (by decide) (Yd.mv rfl (.t rfl)) ?_
            refine W.end ?_
            refine NX.sub (env' := [(1, _), (5, _), (7, _), (11, _), (12, _), (13, _)]) ⟨rfl, rfl, rfl, rfl, rfl, rfl, trivial⟩ ?_
            refine NX.sub (env' := [(1, _), (5, _), (7, _), (11, _), (12, _), (13, _)]) ⟨rfl, rfl, rfl, rfl, rfl, rfl, trivial⟩ ?_
            have hw := w64_id (n := t_15 + 1) (by omega) (by omega)
            exact NX.again n18 (t_15 + 1, (l8 ++ ([({ kind := (0 : Int), by_ := (0 : Int), to := y19.to, label := ({ level := c34, parts := c35 } : Label), val := (0 : Int) } : Deed)] : List Deed))) (Nat.lt_succ_self _) ⟨_, (by rw [hw] <;> rfl), rfl, (fr_dec hnt_15), (by omega), ((hnx17 _).symm.trans hr)⟩
          refine Tr.cond (.t rfl) (fun hb => ?_) (fun hb => ?_)
          · have hr := cond_t hb hr
            obtain ⟨y42, hy43, hr⟩ := bind_some hr
            obtain ⟨r44, hr45, hr⟩ := bind_some hr
            refine Tr.region_x (fun i => Nat.beq i 7) (fun i => Nat.beq i 7) (Ord.of [0, 1, 2, 3, 4, 5, 6, 7]) FM (by kernel_rfl) ?_
            refine W.q rfl rfl rfl rfl (by decide) (Yd.ldBs (pos := 0) (us := [_, _]) rfl rfl rfl rfl ON65 US65 SZ65 (.t rfl)) ?_
            refine W.q rfl rfl rfl rfl (by decide) (Yd.mv rfl (.t rfl)) ?_
            refine W.q rfl rfl rfl rfl (by decide) (Yd.fldB rfl Try.underlying86 rfl SZ3 rfl (.t rfl)) ?_
            refine W.q rfl rfl rfl rfl (by decide) (Yd.ldB (pos := 1) rfl rfl rfl ON3 (.t rfl)) ?_
            refine W.q rfl rfl rfl rfl (by decide) (Yd.idxR hlabels_1 hy43 rfl Try.underlying22 SZ65 (.t rfl) (.t rfl)) ?_
            refine W.q rfl rfl rfl rfl (by decide) (Yd.ldFs (us := [_, _]) hlabels_1 (.refl _) hy43 rfl rfl ON65 US65 SZ65 (.t rfl)) ?_
            refine W.q rfl rfl rfl rfl (by decide) (Yd.call (v := .agg #[.int .i64 r44.level, .int .u32 (r44.parts.toNat : Int)]) rfl Try.func37 rfl rfl (.cons (.t rfl) (.cons (.t rfl) .nil)) (fun x' hx w hw => syllogistref_Both_ok w0 x'.m x'.l (({ level := c30, parts := c31 } : Label)) y42 _ hr45 w hw)) ?_
            refine W.s rfl rfl rfl rfl (Ef.stB (pos := 0) (us := [_, _]) (cs' := [_, _]) rfl rfl (.t rfl) (.t rfl) SZ65 rfl rfl rfl (Nat.le_of_ble_eq_true rfl) rfl) ?_
            rintro _ _ ⟨rfl, rfl⟩
            refine ⟨.inl rfl, ?_⟩
            refine W.cast (m' := m) (l' := hcells b28 [_, _] 65 :: hcells b26 [_, _, _, _, _, _, _] 86 :: hownT 67 6 Deed.enc v9 _ :: hcells b1 [_, _] 65 :: l) rfl rfl ?_
            refine W.end ?_
            refine NX.sub (env' := [(1, _), (5, _), (7, _), (11, _), (12, _), (13, _), (9, _), (10, _)]) ⟨rfl, rfl, rfl, rfl, rfl, rfl, rfl, rfl, trivial⟩ ?_
            refine NX.sub (env' := [(1, _), (5, _), (7, _), (11, _), (12, _), (13, _), (9, _), (10, _)]) ⟨rfl, rfl, rfl, rfl, rfl, rfl, rfl, rfl, trivial⟩ ?_
            exact hk37 _ _ ⟨_, _, rfl, rfl, hr⟩
          · have hr := cond_f hb hr
            refine Tr.skip' ?_
            refine NX.sub (env' := [(1, _), (5, _), (7, _), (11, _), (12, _), (13, _), (9, _), (10, _)]) ⟨rfl, rfl, rfl, rfl, rfl, rfl, rfl, rfl, trivial⟩ ?_
            exact hk37 _ _ ⟨_, _, rfl, rfl, hr⟩
        · have hr := cond_f hb hr
          refine Tr.seq ?_
          refine Tr.region_f (fun _ => false) ?_
          refine W.q rfl rfl rfl rfl (by decide) (Yd.eql rfl (.t rfl) .c) ?_
          refine W.q rfl rfl rfl rfl (by decide) (Yd.as rfl (.t rfl)) ?_
          refine W.end ?_
          refine NX.sub (env' := [(1, _), (5, _), (7, _), (11, _), (12, _), (13, _), (9, _), (10, _), (29, _), (49, _)]) ⟨rfl, rfl, rfl, rfl, rfl, rfl, rfl, rfl, rfl, rfl, trivial⟩ ?_
          refine NX.then ?_
          refine Tr.cond (.t rfl) (fun hb => ?_) (fun hb => ?_)
          · have hr := cond_t hb hr
            obtain ⟨r46, hr47, hr⟩ := bind_some hr
            obtain ⟨hq51, hr⟩ := guard_some hr; replace hq51 := of_decide_eq_true hq51
            obtain ⟨r52, hr53, hr⟩ := bind_some hr
            obtain ⟨hq57, hr⟩ := guard_some hr; replace hq57 := of_decide_eq_true hq57
            refine Tr.region_xJ (fun x => Sle m x.m ∧ (∃ p : Nat, x.l[p]? = some (hcells b26 [.int .i64 y19.kind, .int .i64 y19.to, .int .i64 y19.a, .int .i64 y19.b, .int .i64 y19.val, u21, u23] 86)) ∧ (∃ p : Nat, x.l[p]? = some (hcells b28 [.int .i64 c30, .int .u32 (c31.toNat : Int)] 65)) ∧ True) (fun _ _ hx h => by obtain ⟨hm, ⟨_, h0⟩, ⟨_, h1⟩, _⟩ := h; exact ⟨hm.trans hx.1, hx.at h0, hx.at h1, trivial⟩) (fun i => Nat.beq i 6) (fun i => Nat.beq i 8 || Nat.beq i 10) (fun i => Nat.beq i 5 || Nat.beq i 6 || Nat.beq i 11 || Nat.beq i 12) (fun i => Nat.beq i 6 || Nat.beq i 7 || Nat.beq i 8 || Nat.beq i 9 || Nat.beq i 10 || Nat.beq i 12) (Ord.of [0, 1, 2, 3, 4, 7, 8, 9, 10, 5, 6, 11, 12, 13]) FM (by kernel_rfl) ?_
            refine W.q rfl rfl rfl rfl (by decide) (Yd.mv rfl (.t rfl)) ?_
            refine W.q rfl rfl rfl rfl (by decide) (Yd.fldB rfl Try.underlying86 rfl SZ37 rfl (.t rfl)) ?_
            refine W.q rfl rfl rfl rfl (by decide) (Yd.ldB (pos := 1) rfl rfl rfl ON37 (.t rfl)) ?_
            refine W.q rfl rfl rfl rfl (by decide) (Yd.mv rfl (.t rfl)) ?_
            refine W.q rfl rfl rfl rfl (by decide) (Yd.ldBs (pos := 0) (us := [_, _]) rfl rfl rfl rfl ON65 US65 SZ65 (.t rfl)) ?_
            refine W.p rfl rfl rfl rfl (by decide) (fun _ => Yd.fldB rfl Try.underlying86 rfl SZ37 rfl (.t rfl)) ?_
            refine W.pJ rfl rfl rfl rfl (by decide) (fun _ h => by obtain ⟨jhm, ⟨jp0, jhp0⟩, ⟨jp1, jhp1⟩, _⟩ := h; exact Yd.ldB (pos := jp0) jhp0 rfl rfl ON37 (.t rfl)) ⟨(.refl _), ⟨1, rfl⟩, ⟨0, rfl⟩, trivial⟩ rfl ?_
            refine W.p rfl rfl rfl rfl (by decide) (fun _ => Yd.mv rfl (.t rfl)) ?_
            refine W.pJ rfl rfl rfl rfl (by decide) (fun _ h => by obtain ⟨jhm, ⟨jp0, jhp0⟩, ⟨jp1, jhp1⟩, _⟩ := h; exact Yd.ldBs (pos := jp1) (us := [_, _]) jhp1 rfl rfl rfl ON65 US65 SZ65 (.t rfl)) ⟨(.refl _), ⟨1, rfl⟩, ⟨0, rfl⟩, trivial⟩ rfl ?_
            refine W.e rfl rfl rfl rfl (by decide) (Ef.call (R := fun z x' => ∃ v58 : Value, z = v58 ∧ x' = ⟨m, hownT 67 6 Deed.enc v58 r46 :: hcells b28 [.int .i64 c30, .int .u32 (c31.toNat : Int)] 65 :: hcells b26 [.int .i64 y19.kind, .int .i64 y19.to, .int .i64 y19.a, .int .i64 y19.b, .int .i64 y19.val, u21, u23] 86 :: hownT 67 6 Deed.enc v9 l8 :: hcells b1 [.int .i64 c_2.level, .int .u32 (c_2.parts.toNat : Int)] 65 :: l⟩) rfl Try.func50 rfl rfl (.cons (.t rfl) (.cons (.t rfl) (.cons (.t rfl) .nil))) (fun w hw => (ih _ _ _ _ hu22 _ _ hlabels_1 (({ level := c30, parts := c31 } : Label)) _ hr47 w hw).mono fun e w' ⟨v58, he, hc'⟩ => ⟨_, _, he, ⟨v58, rfl, rfl⟩, hc'⟩)) ?_ (hJ := fun _ _ _ h => absurd (show false = true from h) (by decide))
            rintro v58 _ ⟨_, rfl, rfl⟩
            refine ⟨.inr ⟨.refl _, [_], rfl⟩, ?_⟩
            refine W.cast (m' := m) (l' := hownT 67 6 Deed.enc v58 _ :: hcells b28 [_, _] 65 :: hcells b26 [_, _, _, _, _, _, _] 86 :: hownT 67 6 Deed.enc v9 _ :: hcells b1 [_, _] 65 :: l) rfl rfl ?_
            refine W.e rfl rfl rfl rfl (by decide) (Ef.apI (pos := 3) (enc := Deed.enc) (xs := l8) (ys := r46) (fun _ => rfl) IF67 rfl rfl Try.underlying23 rfl (by decide) (.t rfl) (.t rfl) (Src.own (pos := 0) rfl) (fun _ => rfl) (by omega) (by omega)) ?_ (hJ := by rintro v60 _ rfl; exact fun _ => ⟨(.refl _), ⟨2, rfl⟩, ⟨1, rfl⟩, trivial⟩)
            rintro v60 _ rfl
            refine ⟨.inl rfl, ?_⟩
            refine W.cast (m' := m) (l' := hownT 67 6 Deed.enc v58 _ :: hcells b28 [_, _] 65 :: hcells b26 [_, _, _, _, _, _, _] 86 :: hownT 67 6 Deed.enc v60 _ :: hcells b1 [_, _] 65 :: l) rfl rfl ?_
            refine W.e rfl rfl rfl rfl (by decide) (Ef.call (R := fun z x' => ∃ v61 : Value, z = v61 ∧ x' = ⟨m, hownT 67 6 Deed.enc v61 r52 :: hownT 67 6 Deed.enc v58 r46 :: hcells b28 [.int .i64 c30, .int .u32 (c31.toNat : Int)] 65 :: hcells b26 [.int .i64 y19.kind, .int .i64 y19.to, .int .i64 y19.a, .int .i64 y19.b, .int .i64 y19.val, u21, u23] 86 :: hownT 67 6 Deed.enc v60 ((l8 ++ r46)) :: hcells b1 [.int .i64 c_2.level, .int .u32 (c_2.parts.toNat : Int)] 65 :: l⟩) rfl Try.func50 rfl rfl (.cons (.t rfl) (.cons (.t rfl) (.cons (.t rfl) .nil))) (fun w hw => (ih _ _ _ _ hu24 _ _ hlabels_1 (({ level := c30, parts := c31 } : Label)) _ hr53 w hw).mono fun e w' ⟨v61, he, hc'⟩ => ⟨_, _, he, ⟨v61, rfl, rfl⟩, hc'⟩)) ?_ (hJ := fun _ _ _ h => absurd (show false = true from h) (by decide))
            rintro v61 _ ⟨_, rfl, rfl⟩
            refine ⟨.inr ⟨.refl _, [_], rfl⟩, ?_⟩
            refine W.cast (m' := m) (l' := hownT 67 6 Deed.enc v61 _ :: hownT 67 6 Deed.enc v58 _ :: hcells b28 [_, _] 65 :: hcells b26 [_, _, _, _, _, _, _] 86 :: hownT 67 6 Deed.enc v60 _ :: hcells b1 [_, _] 65 :: l) rfl rfl ?_
            refine W.e rfl rfl rfl rfl (by decide) (Ef.apI (pos := 4) (enc := Deed.enc) (xs := (l8 ++ r46)) (ys := r52) (fun _ => rfl) IF67 rfl rfl Try.underlying23 rfl (by decide) (.t rfl) (.t rfl) (Src.own (pos := 0) rfl) (fun _ => rfl) (by omega) (by omega)) ?_ (hJ := fun _ _ _ h => absurd (show false = true from h) (by decide))
            rintro v63 _ rfl
            refine ⟨.inl rfl, ?_⟩
            refine W.cast (m' := m) (l' := hownT 67 6 Deed.enc v61 _ :: hownT 67 6 Deed.enc v58 _ :: hcells b28 [_, _] 65 :: hcells b26 [_, _, _, _, _, _, _] 86 :: hownT 67 6 Deed.enc v63 _ :: hcells b1 [_, _] 65 :: l) rfl rfl ?_
            refine W.q rfl rfl rfl rfl (by decide) (Yd.as rfl (.t rfl)) ?_
            refine W.end ?_
            refine NX.sub (env' := [(1, _), (5, _), (7, _), (11, _), (12, _), (13, _)]) ⟨rfl, rfl, rfl, rfl, rfl, rfl, trivial⟩ ?_
            refine NX.drop (l' := hownT 67 6 Deed.enc v63 _ :: hcells b1 [_, _] 65 :: l) (.cons _ (.cons _ (.cons _ (.cons _ (.cons_cons _ (.cons_cons _ (.refl _))))))) ?_
            refine NX.block ?_
            refine NX.block ?_
            refine NX.then ?_
            refine Tr.region_f (fun _ => false) ?_
            refine W.q rfl rfl rfl rfl (by decide) (Yd.add rfl (.t rfl) .c) ?_
            refine W.q rfl rfl rfl rfl (by decide) (Yd.mv rfl (.t rfl)) ?_
            refine W.end ?_
            refine NX.sub (env' := [(1, _), (5, _), (7, _), (11, _), (12, _), (13, _)]) ⟨rfl, rfl, rfl, rfl, rfl, rfl, trivial⟩ ?_
            refine NX.sub (env' := [(1, _), (5, _), (7, _), (11, _), (12, _), (13, _)]) ⟨rfl, rfl, rfl, rfl, rfl, rfl, trivial⟩ ?_
            have hw := w64_id (n := t_15 + 1) (by omega) (by omega)
            exact NX.again n18 (t_15 + 1, ((l8 ++ r46) ++ r52)) (Nat.lt_succ_self _) ⟨_, (by rw [hw] <;> rfl), rfl, (fr_dec hnt_15), (by omega), ((hnx17 _).symm.trans hr)⟩
          · have hr := cond_f hb hr
            refine Tr.seq ?_
            refine Tr.region_f (fun _ => false) ?_
            refine W.q rfl rfl rfl rfl (by decide) (Yd.eql rfl (.t rfl) .c) ?_
            refine W.q rfl rfl rfl rfl (by decide) (Yd.as rfl (.t rfl)) ?_
            refine W.end ?_
            refine NX.sub (env' := [(1, _), (5, _), (7, _), (11, _), (12, _), (13, _), (9, _), (10, _), (64, _)]) ⟨rfl, rfl, rfl, rfl, rfl, rfl, rfl, rfl, rfl, trivial⟩ ?_
            refine NX.then ?_
            refine Tr.cond (.t rfl) (fun hb => ?_) (fun hb => ?_)
            · have hr := cond_t hb hr
              obtain ⟨r64, hr65, hr⟩ := bind_some hr
              obtain ⟨hq69, hr⟩ := guard_some hr; replace hq69 := of_decide_eq_true hq69
              refine Tr.region_f (fun i => Nat.beq i 5 || Nat.beq i 6) ?_
              refine W.q rfl rfl rfl rfl (by decide) (Yd.mv rfl (.t rfl)) ?_
              refine W.q rfl rfl rfl rfl (by decide) (Yd.fldB rfl Try.underlying86 rfl SZ37 rfl (.t rfl)) ?_
              refine W.q rfl rfl rfl rfl (by decide) (Yd.ldB (pos := 1) rfl rfl rfl ON37 (.t rfl)) ?_
              refine W.q rfl rfl rfl rfl (by decide) (Yd.mv rfl (.t rfl)) ?_
              refine W.q rfl rfl rfl rfl (by decide) (Yd.ldBs (pos := 0) (us := [_, _]) rfl rfl rfl rfl ON65 US65 SZ65 (.t rfl)) ?_
              refine W.e rfl rfl rfl rfl (by decide) (Ef.call (R := fun z x' => ∃ v66 : Value, z = v66 ∧ x' = ⟨m, hownT 67 6 Deed.enc v66 r64 :: hcells b28 [.int .i64 c30, .int .u32 (c31.toNat : Int)] 65 :: hcells b26 [.int .i64 y19.kind, .int .i64 y19.to, .int .i64 y19.a, .int .i64 y19.b, .int .i64 y19.val, u21, u23] 86 :: hownT 67 6 Deed.enc v9 l8 :: hcells b1 [.int .i64 c_2.level, .int .u32 (c_2.parts.toNat : Int)] 65 :: l⟩) rfl Try.func50 rfl rfl (.cons (.t rfl) (.cons (.t rfl) (.cons (.t rfl) .nil))) (fun w hw => (ih _ _ _ _ hu22 _ _ hlabels_1 (({ level := c30, parts := c31 } : Label)) _ hr65 w hw).mono fun e w' ⟨v66, he, hc'⟩ => ⟨_, _, he, ⟨v66, rfl, rfl⟩, hc'⟩)) ?_
              rintro v66 _ ⟨_, rfl, rfl⟩
              refine ⟨.inl rfl, ?_⟩
              refine W.cast (m' := m) (l' := hownT 67 6 Deed.enc v66 _ :: hcells b28 [_, _] 65 :: hcells b26 [_, _, _, _, _, _, _] 86 :: hownT 67 6 Deed.enc v9 _ :: hcells b1 [_, _] 65 :: l) rfl rfl ?_
              refine W.e rfl rfl rfl rfl (by decide) (Ef.apI (pos := 3) (enc := Deed.enc) (xs := l8) (ys := r64) (fun _ => rfl) IF67 rfl rfl Try.underlying23 rfl (by decide) (.t rfl) (.t rfl) (Src.own (pos := 0) rfl) (fun _ => rfl) (by omega) (by omega)) ?_
              rintro v68 _ rfl
              refine ⟨.inl rfl, ?_⟩
              refine W.cast (m' := m) (l' := hownT 67 6 Deed.enc v66 _ :: hcells b28 [_, _] 65 :: hcells b26 [_, _, _, _, _, _, _] 86 :: hownT 67 6 Deed.enc v68 _ :: hcells b1 [_, _] 65 :: l) rfl rfl ?_
              refine W.q rfl rfl rfl rfl (by decide) (Yd.as rfl (.t rfl)) ?_
              refine W.end ?_
              refine NX.sub (env' := [(1, _), (5, _), (7, _), (11, _), (12, _), (13, _)]) ⟨rfl, rfl, rfl, rfl, rfl, rfl, trivial⟩ ?_
              refine NX.drop (l' := hownT 67 6 Deed.enc v68 _ :: hcells b1 [_, _] 65 :: l) (.cons _ (.cons _ (.cons _ (.cons_cons _ (.cons_cons _ (.refl _)))))) ?_
              refine NX.block ?_
              refine NX.block ?_
              refine NX.then ?_
              refine Tr.region_f (fun _ => false) ?_
              refine W.q rfl rfl rfl rfl (by decide) (Yd.add rfl (.t rfl) .c) ?_
              refine W.q rfl rfl rfl rfl (by decide) (Yd.mv rfl (.t rfl)) ?_
              refine W.end ?_
              refine NX.sub (env' := [(1, _), (5, _), (7, _), (11, _), (12, _), (13, _)]) ⟨rfl, rfl, rfl, rfl, rfl, rfl, trivial⟩ ?_
              refine NX.sub (env' := [(1, _), (5, _), (7, _), (11, _), (12, _), (13, _)]) ⟨rfl, rfl, rfl, rfl, rfl, rfl, trivial⟩ ?_
              have hw := w64_id (n := t_15 + 1) (by omega) (by omega)
              exact NX.again n18 (t_15 + 1, (l8 ++ r64)) (Nat.lt_succ_self _) ⟨_, (by rw [hw] <;> rfl), rfl, (fr_dec hnt_15), (by omega), ((hnx17 _).symm.trans hr)⟩
            · have hr := cond_f hb hr
              refine Tr.skip' ?_
              refine NX.block ?_
              refine NX.block ?_
              refine NX.then ?_
              refine Tr.region_f (fun _ => false) ?_
              refine W.q rfl rfl rfl rfl (by decide) (Yd.add rfl (.t rfl) .c) ?_
              refine W.q rfl rfl rfl rfl (by decide) (Yd.mv rfl (.t rfl)) ?_
              refine W.end ?_
              refine NX.sub (env' := [(1, _), (5, _), (7, _), (11, _), (12, _), (13, _)]) ⟨rfl, rfl, rfl, rfl, rfl, rfl, trivial⟩ ?_
              refine NX.drop (l' := hownT 67 6 Deed.enc v9 _ :: hcells b1 [_, _] 65 :: l) (.cons _ (.cons _ (.cons_cons _ (.cons_cons _ (.refl _))))) ?_
              refine NX.sub (env' := [(1, _), (5, _), (7, _), (11, _), (12, _), (13, _)]) ⟨rfl, rfl, rfl, rfl, rfl, rfl, trivial⟩ ?_
              have hw := w64_id (n := t_15 + 1) (by omega) (by omega)
              exact NX.again n18 (t_15 + 1, l8) (Nat.lt_succ_self _) ⟨_, (by rw [hw] <;> rfl), rfl, (fr_dec hnt_15), (by omega), ((hnx17 _).symm.trans hr)⟩
      refine Tr.cond (.t rfl) (fun hb => ?_) (fun hb => ?_)
      · have hr := cond_t hb hr
        obtain ⟨y70, hy71, hr⟩ := bind_some hr
        obtain ⟨r72, hr73, hr⟩ := bind_some hr
        refine Tr.region_x (fun i => Nat.beq i 7) (fun i => Nat.beq i 7) (Ord.of [0, 1, 2, 3, 4, 5, 6, 7]) FM (by kernel_rfl) ?_
        refine W.q rfl rfl rfl rfl (by decide) (Yd.ldBs (pos := 3) (us := [_, _]) rfl rfl rfl rfl ON65 US65 SZ65 (.t rfl)) ?_
        refine W.q rfl rfl rfl rfl (by decide) (Yd.mv rfl (.t rfl)) ?_
        refine W.q rfl rfl rfl rfl (by decide) (Yd.fldB rfl Try.underlying86 rfl SZ3 rfl (.t rfl)) ?_
        refine W.q rfl rfl rfl rfl (by decide) (Yd.ldB (pos := 1) rfl rfl rfl ON3 (.t rfl)) ?_
        refine W.q rfl rfl rfl rfl (by decide) (Yd.idxR hlabels_1 hy71 rfl Try.underlying22 SZ65 (.t rfl) (.t rfl)) ?_
        refine W.q rfl rfl rfl rfl (by decide) (Yd.ldFs (us := [_, _]) hlabels_1 (.refl _) hy71 rfl rfl ON65 US65 SZ65 (.t rfl)) ?_
        refine W.q rfl rfl rfl rfl (by decide) (Yd.call (v := .agg #[.int .i64 r72.level, .int .u32 (r72.parts.toNat : Int)]) rfl Try.func37 rfl rfl (.cons (.t rfl) (.cons (.t rfl) .nil)) (fun x' hx w hw => syllogistref_Both_ok w0 x'.m x'.l (({ level := c_2.level, parts := c_2.parts } : Label)) y70 _ hr73 w hw)) ?_
        refine W.s rfl rfl rfl rfl (Ef.stB (pos := 0) (us := [_, _]) (cs' := [_, _]) rfl rfl (.t rfl) (.t rfl) SZ65 rfl rfl rfl (Nat.le_of_ble_eq_true rfl) rfl) ?_
        rintro _ _ ⟨rfl, rfl⟩
        refine ⟨.inl rfl, ?_⟩
        refine W.cast (m' := m) (l' := hcells b28 [_, _] 65 :: hcells b26 [_, _, _, _, _, _, _] 86 :: hownT 67 6 Deed.enc v9 _ :: hcells b1 [_, _] 65 :: l) rfl rfl ?_
        refine W.end ?_
        refine NX.sub (env' := [(1, _), (5, _), (7, _), (11, _), (12, _), (13, _), (9, _), (10, _)]) ⟨rfl, rfl, rfl, rfl, rfl, rfl, rfl, rfl, trivial⟩ ?_
        refine NX.sub (env' := [(1, _), (5, _), (7, _), (11, _), (12, _), (13, _), (9, _), (10, _)]) ⟨rfl, rfl, rfl, rfl, rfl, rfl, rfl, rfl, trivial⟩ ?_
        exact hk33 _ _ ⟨_, _, rfl, rfl, hr⟩
      · have hr := cond_f hb hr
        refine Tr.skip' ?_
        refine NX.sub (env' := [(1, _), (5, _), (7, _), (11, _), (12, _), (13, _), (9, _), (10, _)]) ⟨rfl, rfl, rfl, rfl, rfl, rfl, rfl, rfl, trivial⟩ ?_
        exact hk33 _ _ ⟨_, _, rfl, rfl, hr⟩

def syllogistref_In (a_0 : (BitVec 32)) (b_1 : (BitVec 32)) : Option (Bool) :=
  some (((a_0 ||| b_1) == b_1))

set_option maxRecDepth 100000 in
set_option maxHeartbeats 4000000 in
theorem syllogistref_In_ok (w0 : World) (m : Snap) (l : List HI) (a_0 : (BitVec 32)) (b_1 : (BitVec 32)) (r : Bool) (hr : syllogistref_In a_0 b_1 = some r) (w : World) (hc : cX w0 ⟨m, l⟩ w) :
    Calls Try.prog 57 [.int .u32 (a_0.toNat : Int), .int .u32 (b_1.toNat : Int)].toArray w fun e w' => e = .returned (.bool r) ∧ cX w0 ⟨m, l⟩ w' := by
  unfold syllogistref_In at hr
  refine calls_of_Tr (N := 10) Try.func57 rfl hc rfl (Nat.le_of_ble_eq_true rfl) ?_
  refine Tr.seq ?_
  refine Tr.region_f (fun _ => false) ?_
  refine W.q rfl rfl rfl rfl (by decide) (Yd.as rfl .c) ?_
  refine W.end ?_
  refine NX.sub (env' := [(0, _), (1, _)]) ⟨rfl, rfl, trivial⟩ ?_
  refine NX.then ?_
  refine Tr.seq ?_
  refine Tr.region_f (fun _ => false) ?_
  refine W.q rfl rfl rfl rfl (by decide) (Yd.mv rfl (.t rfl)) ?_
  refine W.q rfl rfl rfl rfl (by decide) (Yd.mv rfl (.t rfl)) ?_
  refine W.q rfl rfl rfl rfl (by decide) (Yd.orU (a := a_0) (b := b_1) rfl (.t rfl) (.t rfl)) ?_
  refine W.q rfl rfl rfl rfl (by decide) (Yd.mv rfl (.t rfl)) ?_
  refine W.q rfl rfl rfl rfl (by decide) (Yd.eqlU (a := (a_0 ||| b_1)) (b := b_1) rfl (.t rfl) (.t rfl)) ?_
  refine W.q rfl rfl rfl rfl (by decide) (Yd.as rfl (.t rfl)) ?_
  refine W.end ?_
  refine NX.sub (env' := [(4, _)]) ⟨rfl, trivial⟩ ?_
  refine NX.then ?_
  refine Tr.ret' ?_
  refine res1 rfl rfl ?_
  intro w hc
  cases hr
  exact ⟨rfl, hc⟩

def syllogistref_Below (a_0 : Label) (b_1 : Label) : Option (Bool) :=
  bif (!((decide (a_0.level ≤ b_1.level)) == true) || (syllogistref_In a_0.parts b_1.parts).isSome) then
  some (((decide (a_0.level ≤ b_1.level)) && (((syllogistref_In a_0.parts b_1.parts).getD false)))) else none

set_option maxRecDepth 100000 in
set_option maxHeartbeats 4000000 in
theorem syllogistref_Below_ok (w0 : World) (m : Snap) (l : List HI) (a_0 : Label) (b_1 : Label) (r : Bool) (hr : syllogistref_Below a_0 b_1 = some r) (w : World) (hc : cX w0 ⟨m, l⟩ w) :
    Calls Try.prog 38 [.agg #[.int .i64 a_0.level, .int .u32 (a_0.parts.toNat : Int)], .agg #[.int .i64 b_1.level, .int .u32 (b_1.parts.toNat : Int)]].toArray w fun e w' => e = .returned (.bool r) ∧ cX w0 ⟨m, l⟩ w' := by
  unfold syllogistref_Below at hr
  refine calls_of_Tr (N := 17) Try.func38 rfl hc rfl (Nat.le_of_ble_eq_true rfl) ?_
  refine Tr.seq ?_
  refine Tr.region_f (fun i => Nat.beq i 0 || Nat.beq i 1) ?_
  refine W.e rfl rfl rfl rfl (by decide) (Ef.bx rfl (.t rfl) rfl) ?_
  rintro _ _ ⟨b1, rfl, rfl⟩
  refine ⟨.inl rfl, ?_⟩
  refine W.cast (m' := m) (l' := hcells b1 [_, _] 65 :: l) rfl rfl ?_
  refine W.e rfl rfl rfl rfl (by decide) (Ef.bx rfl (.t rfl) rfl) ?_
  rintro _ _ ⟨b3, rfl, rfl⟩
  refine ⟨.inl rfl, ?_⟩
  refine W.cast (m' := m) (l' := hcells b3 [_, _] 65 :: hcells b1 [_, _] 65 :: l) rfl rfl ?_
  refine W.q rfl rfl rfl rfl (by decide) (Yd.as rfl .c) ?_
  refine W.end ?_
  refine NX.sub (env' := [(2, _), (3, _)]) ⟨rfl, rfl, trivial⟩ ?_
  refine NX.then ?_
  refine Tr.seq ?_
  obtain ⟨ha5, hr⟩ := guard_some hr
  refine Tr.region_f (fun _ => false) ?_
  refine W.q rfl rfl rfl rfl (by decide) (Yd.fldB rfl Try.underlying65 rfl SZ3 rfl (.t rfl)) ?_
  refine W.q rfl rfl rfl rfl (by decide) (Yd.ldB (pos := 1) rfl rfl rfl ON3 (.t rfl)) ?_
  refine W.q rfl rfl rfl rfl (by decide) (Yd.fldB rfl Try.underlying65 rfl SZ3 rfl (.t rfl)) ?_
  refine W.q rfl rfl rfl rfl (by decide) (Yd.ldB (pos := 0) rfl rfl rfl ON3 (.t rfl)) ?_
  refine W.q rfl rfl rfl rfl (by decide) (Yd.leq rfl (.t rfl) (.t rfl)) ?_
  refine W.q rfl rfl rfl rfl (by decide) (Yd.mv rfl (.t rfl)) ?_
  refine W.g rfl rfl rfl rfl rfl (.t rfl _) rfl (by decide) (fun hG => Yd.fldB rfl Try.underlying65 rfl SZ63 rfl (.t rfl)) ?_
  refine W.g rfl rfl rfl rfl rfl (.t rfl _) rfl (by decide) (fun hG => Yd.ldB (pos := 1) rfl rfl rfl ON63 (.g rfl hG)) ?_
  refine W.g rfl rfl rfl rfl rfl (.t rfl _) rfl (by decide) (fun hG => Yd.fldB rfl Try.underlying65 rfl SZ63 rfl (.t rfl)) ?_
  refine W.g rfl rfl rfl rfl rfl (.t rfl _) rfl (by decide) (fun hG => Yd.ldB (pos := 0) rfl rfl rfl ON63 (.g rfl hG)) ?_
  refine W.g rfl rfl rfl rfl rfl (.t rfl _) rfl (by decide) (fun hG => Yd.call (v := .bool ((((syllogistref_In a_0.parts b_1.parts).getD false)))) rfl Try.func57 rfl rfl (.cons (.g rfl hG) (.cons (.g rfl hG) .nil)) (fun x' hx w hw => syllogistref_In_ok w0 x'.m x'.l a_0.parts b_1.parts _ (gd_get (d := false) ha5 hG) w hw)) ?_
  refine W.q rfl rfl rfl rfl (by decide) (Yd.and rfl (.t rfl) .c rfl rfl) ?_
  refine W.q rfl rfl rfl rfl (by decide) (Yd.as rfl (.t rfl)) ?_
  refine W.end ?_
  refine NX.sub (env' := [(4, _)]) ⟨rfl, trivial⟩ ?_
  refine NX.drop (l' := l) (.cons _ (.cons _ (.refl _))) ?_
  refine NX.then ?_
  refine Tr.ret' ?_
  refine res1 rfl rfl ?_
  intro w hc
  cases hr
  exact ⟨rfl, hc⟩

def syllogistref_Clean_k7 : Option (Bool) :=
  some true

def syllogistref_Clean_b11 (labels_1 : List Label) (r1 : (List Deed)) (t_10 : Int) (nx12 : Unit → Option (Bool)) : Option (Bool) :=
  (geti r1 t_10).bind fun y14 =>
  (geti labels_1 y14.to).bind fun y18 =>
  (syllogistref_Below (({ level := y14.label.level, parts := y14.label.parts } : Label)) y18).bind fun r20 =>
  (bif (!r20) then
  some false
  else
  nx12 ())

def syllogistref_Clean (fuel : Nat) (prog_0 : List Line) (labels_1 : List Label) : Option (Bool) :=
  (syllogistref_Needs fuel prog_0 labels_1 (({ level := (0 : Int), parts := (0#32) } : Label))).bind fun r1 =>
  forK (σ := Unit) (fun i s nx_ => syllogistref_Clean_b11 labels_1 r1 i nx_) (fun _ => syllogistref_Clean_k7) ((r1.length : Int) - (0 : Int)).toNat (0 : Int) ()

set_option maxRecDepth 100000 in
set_option maxHeartbeats 4000000 in
theorem syllogistref_Clean_ok (w0 : World) (m : Snap) (l : List HI) (fuel : Nat) (uprog_0 : Value) (prog_0 : List Line) (hprog_0 : RS rLine m uprog_0 prog_0) (ulabels_1 : Value) (labels_1 : List Label) (hlabels_1 : RS rLabel m ulabels_1 labels_1) (r : Bool) (hr : syllogistref_Clean fuel prog_0 labels_1 = some r) (w : World) (hc : cX w0 ⟨m, l⟩ w) :
    Calls Try.prog 23 [uprog_0, ulabels_1].toArray w fun e w' => e = .returned (.bool r) ∧ cX w0 ⟨m, l⟩ w' := by
  unfold syllogistref_Clean at hr
  refine calls_of_Tr (N := 26) Try.func23 rfl hc rfl (Nat.le_of_ble_eq_true rfl) ?_
  refine Tr.seq ?_
  refine Tr.region_f (fun _ => false) ?_
  refine W.q rfl rfl rfl rfl (by decide) (Yd.as rfl .c) ?_
  refine W.end ?_
  refine NX.sub (env' := [(0, _), (1, _)]) ⟨rfl, rfl, trivial⟩ ?_
  refine NX.then ?_
  refine Tr.seq ?_
  refine Tr.seq ?_
  obtain ⟨r1, hr2, hr⟩ := bind_some hr
  refine Tr.region_f (fun i => Nat.beq i 3) ?_
  refine W.q rfl rfl rfl rfl (by decide) (Yd.mv rfl (.t rfl)) ?_
  refine W.q rfl rfl rfl rfl (by decide) (Yd.mv rfl (.t rfl)) ?_
  refine W.q rfl rfl rfl rfl (by decide) (Yd.bld (cells := [.int .i64 ((0 : Int)), .int .u32 (((0#32)).toNat : Int)]) rfl ZI65 PL65 .nil rfl) ?_
  refine W.e rfl rfl rfl rfl (by decide) (Ef.call (R := fun z x' => ∃ v3 : Value, z = v3 ∧ x' = ⟨m, hownT 67 6 Deed.enc v3 r1 :: l⟩) rfl Try.func50 rfl rfl (.cons (.t rfl) (.cons (.t rfl) (.cons (.t rfl) .nil))) (fun w hw => (syllogistref_Needs_ok w0 _ _ fuel _ _ hprog_0 _ _ hlabels_1 (({ level := (0 : Int), parts := (0#32) } : Label)) _ hr2 w hw).mono fun e w' ⟨v3, he, hc'⟩ => ⟨_, _, he, ⟨v3, rfl, rfl⟩, hc'⟩)) ?_
  rintro v3 _ ⟨_, rfl, rfl⟩
  refine ⟨.inl rfl, ?_⟩
  refine W.cast (m' := m) (l' := hownT 67 6 Deed.enc v3 _ :: l) rfl rfl ?_
  refine W.q rfl rfl rfl rfl (by decide) (Yd.lenO (p := 0) rfl rfl Try.underlying23 (.t rfl)) ?_
  refine W.q rfl rfl rfl rfl (by decide) (Yd.mv rfl .c) ?_
  refine W.end ?_
  refine NX.sub (env' := [(1, _), (10, _), (11, _), (12, _)]) ⟨rfl, rfl, rfl, rfl, trivial⟩ ?_
  refine NX.then ?_
  refine Tr.join (S := fun env x => env = [] ∧ x = ⟨m, l⟩ ∧ syllogistref_Clean_k7 = some r) ?_ (fun hk8 => ?_)
  · rintro _ _ ⟨rfl, rfl, hr⟩
    unfold syllogistref_Clean_k7 at hr
    try dsimp only at hr
    refine NX.then ?_
    refine Tr.seq ?_
    refine Tr.region_f (fun _ => false) ?_
    refine W.q rfl rfl rfl rfl (by decide) (Yd.as rfl .c) ?_
    refine W.end ?_
    refine NX.sub (env' := [(4, _)]) ⟨rfl, trivial⟩ ?_
    refine NX.then ?_
    refine Tr.ret' ?_
    refine res1 rfl rfl ?_
    intro w hc
    cases hr
    exact ⟨rfl, hc⟩
  refine Tr.lenO (pos := 0) rfl (fun hlen9 => ?_)
  refine Tr.block ?_
  refine Tr.sub (env' := [(1, _), (10, _), (11, _), (12, _)]) ⟨rfl, rfl, rfl, rfl, trivial⟩ ?_
  refine Tr.loop (S := fun n (z : Int × Unit) env x => match z with | (t_10, _) => env = [(1, ulabels_1), (10, v3), (11, .int .i64 ((r1.length : Int))), (12, .int .i64 t_10)] ∧ x = ⟨m, hownT 67 6 Deed.enc v3 r1 :: l⟩ ∧ n = ((r1.length : Int) - t_10).toNat ∧ 0 ≤ t_10 ∧ forK (σ := Unit) (fun i s nx_ => syllogistref_Clean_b11 labels_1 r1 i nx_) (fun _ => syllogistref_Clean_k7) n t_10 () = some r) _ ((0 : Int), ()) ⟨rfl, rfl, rfl, (by omega), hr⟩ ?_
  rintro n13 ⟨t_10, _⟩ env x ⟨rfl, rfl, hnt_10, h0t_10, hr⟩
  cases n13 with
  | zero =>
    simp only [forK] at hr
    refine Tr.seq ?_
    refine Tr.region_f (fun _ => false) ?_
    refine W.q rfl rfl rfl rfl (by decide) (Yd.lss rfl (.t rfl) (.t rfl)) ?_
    refine W.end ?_
    refine NX.sub (env' := [(1, _), (10, _), (11, _), (12, _), (13, _)]) ⟨rfl, rfl, rfl, rfl, rfl, trivial⟩ ?_
    refine NX.then ?_
    refine Tr.seq ?_
    refine Tr.cond (.t rfl) (fun hb => ?_) (fun hb => ?_)
    · exact absurd (hb.symm.trans (fr_end hnt_10)) (by decide)
    ·
      refine Tr.exit' (EX.then (EX.then (EX.block ?_)))
      refine NX.sub (env' := []) trivial ?_
      refine NX.drop (l' := l) (.cons _ (.refl _)) ?_
      exact hk8 _ _ ⟨rfl, rfl, hr⟩
  | succ n13 =>
    obtain ⟨nx12, hnx12, hr⟩ := forK_succ hr
    try dsimp only at hr
    unfold syllogistref_Clean_b11 at hr
    try dsimp only at hr
    have hltt_10 := fr_bnd hnt_10
    refine Tr.seq ?_
    refine Tr.region_f (fun _ => false) ?_
    refine W.q rfl rfl rfl rfl (by decide) (Yd.lss rfl (.t rfl) (.t rfl)) ?_
    refine W.end ?_
    refine NX.sub (env' := [(1, _), (10, _), (11, _), (12, _), (13, _)]) ⟨rfl, rfl, rfl, rfl, rfl, trivial⟩ ?_
    refine NX.then ?_
    refine Tr.seq ?_
    refine Tr.cond (.t rfl) (fun hb => ?_) (fun hb => ?_)
    rotate_left
    · exact absurd (hb.symm.trans (fr_go hnt_10)) (by decide)
    ·
      refine Tr.skip' ?_
      refine NX.then ?_
      refine Tr.seq ?_
      refine Tr.block ?_
      refine Tr.seq ?_
      obtain ⟨y14, hy15, hr⟩ := bind_some hr
      refine Tr.region_f (fun i => Nat.beq i 2 || Nat.beq i 3) ?_
      refine W.q rfl rfl rfl rfl (by decide) (Yd.idxT (pos := 0) rfl hy15 rfl Try.underlying23 SZ67 (.t rfl) (.t rfl)) ?_
      refine W.q rfl rfl rfl rfl (by decide) (Yd.ldTs (enc := Deed.enc) (n := 6) (pos := 0) (us := [_, _, _, _, _, _]) (fun _ => rfl) rfl hy15 rfl (by decide) rfl ON67 US67 SZ67 (.t rfl)) ?_
      refine W.e rfl rfl rfl rfl (by decide) (Ef.al rfl ZR67 rfl) ?_
      rintro _ _ ⟨b16, rfl, rfl⟩
      refine ⟨.inl rfl, ?_⟩
      refine W.cast (m' := m) (l' := hcells b16 [_, _, _, _, _, _] 67 :: hownT 67 6 Deed.enc v3 _ :: l) rfl rfl ?_
      refine W.s rfl rfl rfl rfl (Ef.stB (pos := 0) (us := [_, _, _, _, _, _]) (cs' := [_, _, _, _, _, _]) rfl rfl (.t rfl) (.t rfl) SZ67 rfl rfl rfl (Nat.le_of_ble_eq_true rfl) rfl) ?_
      rintro _ _ ⟨rfl, rfl⟩
      refine ⟨.inl rfl, ?_⟩
      refine W.cast (m' := m) (l' := hcells b16 [_, _, _, _, _, _] 67 :: hownT 67 6 Deed.enc v3 _ :: l) rfl rfl ?_
      refine W.end ?_
      refine NX.sub (env' := [(1, _), (10, _), (11, _), (12, _), (6, _)]) ⟨rfl, rfl, rfl, rfl, rfl, trivial⟩ ?_
      refine NX.then ?_
      refine Tr.seq ?_
      obtain ⟨y18, hy19, hr⟩ := bind_some hr
      obtain ⟨r20, hr21, hr⟩ := bind_some hr
      refine Tr.region_x (fun _ => false) (fun _ => false) (Ord.of [0, 1, 2, 3, 4, 5, 6, 7, 8]) FM (by kernel_rfl) ?_
      refine W.q rfl rfl rfl rfl (by decide) (Yd.fldB rfl Try.underlying67 rfl SZ65 rfl (.t rfl)) ?_
      refine W.q rfl rfl rfl rfl (by decide) (Yd.ldBs (pos := 0) (us := [_, _]) rfl rfl rfl rfl ON65 US65 SZ65 (.t rfl)) ?_
      refine W.q rfl rfl rfl rfl (by decide) (Yd.mv rfl (.t rfl)) ?_
      refine W.q rfl rfl rfl rfl (by decide) (Yd.fldB rfl Try.underlying67 rfl SZ3 rfl (.t rfl)) ?_
      refine W.q rfl rfl rfl rfl (by decide) (Yd.ldB (pos := 0) rfl rfl rfl ON3 (.t rfl)) ?_
      refine W.q rfl rfl rfl rfl (by decide) (Yd.idxR hlabels_1 hy19 rfl Try.underlying22 SZ65 (.t rfl) (.t rfl)) ?_
      refine W.q rfl rfl rfl rfl (by decide) (Yd.ldFs (us := [_, _]) hlabels_1 (.refl _) hy19 rfl rfl ON65 US65 SZ65 (.t rfl)) ?_
      refine W.q rfl rfl rfl rfl (by decide) (Yd.call (v := .bool r20) rfl Try.func38 rfl rfl (.cons (.t rfl) (.cons (.t rfl) .nil)) (fun x' hx w hw => syllogistref_Below_ok w0 x'.m x'.l (({ level := y14.label.level, parts := y14.label.parts } : Label)) y18 _ hr21 w hw)) ?_
      refine W.q rfl rfl rfl rfl (by decide) (Yd.not rfl (.t rfl)) ?_
      refine W.end ?_
      refine NX.sub (env' := [(1, _), (10, _), (11, _), (12, _), (24, _)]) ⟨rfl, rfl, rfl, rfl, rfl, trivial⟩ ?_
      refine NX.drop (l' := hownT 67 6 Deed.enc v3 _ :: l) (.cons _ (.cons_cons _ (.refl _))) ?_
      refine NX.then ?_
      refine Tr.cond (.t rfl) (fun hb => ?_) (fun hb => ?_)
      · have hr := cond_t hb hr
        refine Tr.seq ?_
        refine Tr.region_f (fun _ => false) ?_
        refine W.q rfl rfl rfl rfl (by decide) (Yd.as rfl .c) ?_
        refine W.end ?_
        refine NX.sub (env' := [(4, _)]) ⟨rfl, trivial⟩ ?_
        refine NX.drop (l' := l) (.cons _ (.refl _)) ?_
        refine NX.then ?_
        refine Tr.ret' (RT.block (RT.then (RT.then (RT.block (RT.then ?_)))))
        refine res1 rfl rfl ?_
        intro w hc
        cases hr
        exact ⟨rfl, hc⟩
      · have hr := cond_f hb hr
        refine Tr.skip' ?_
        refine NX.block ?_
        refine NX.then ?_
        refine Tr.region_f (fun _ => false) ?_
        refine W.q rfl rfl rfl rfl (by decide) (Yd.add rfl (.t rfl) .c) ?_
        refine W.q rfl rfl rfl rfl (by decide) (Yd.mv rfl (.t rfl)) ?_
        refine W.end ?_
        refine NX.sub (env' := [(1, _), (10, _), (11, _), (12, _)]) ⟨rfl, rfl, rfl, rfl, trivial⟩ ?_
        refine NX.sub (env' := [(1, _), (10, _), (11, _), (12, _)]) ⟨rfl, rfl, rfl, rfl, trivial⟩ ?_
        have hw := w64_id (n := t_10 + 1) (by omega) (by omega)
        exact NX.again n13 (t_10 + 1, ()) (Nat.lt_succ_self _) ⟨(by rw [hw] <;> rfl), rfl, (fr_dec hnt_10), (by omega), ((hnx12 _).symm.trans hr)⟩

def syllogistlaw_FlowCleans (fuel : Nat) (n_0 : Int) (labels_1 : List Label) (prog_2 : List Line) : Option (Bool) :=
  (flow_Clean fuel n_0 labels_1 prog_2).bind fun r1 =>
  (syllogistlaw_flowCode fuel n_0 labels_1 prog_2).bind fun r3 =>
  (bif (r3 != (0 : Int)) then
  some (((r1.2 == r3) && (!r1.1)))
  else
  bif (!((r1.2 == (0 : Int)) == true) || (syllogistref_Clean fuel prog_2 labels_1).isSome) then
  some (((r1.2 == (0 : Int)) && (r1.1 == (((syllogistref_Clean fuel prog_2 labels_1).getD false))))) else none)

set_option maxRecDepth 100000 in
set_option maxHeartbeats 4000000 in
theorem syllogistlaw_FlowCleans_ok (w0 : World) (m : Snap) (l : List HI) (fuel : Nat) (n_0 : Int) (ulabels_1 : Value) (labels_1 : List Label) (hlabels_1 : RS rLabel m ulabels_1 labels_1) (uprog_2 : Value) (prog_2 : List Line) (hprog_2 : RS rLine m uprog_2 prog_2) (r : Bool) (hr : syllogistlaw_FlowCleans fuel n_0 labels_1 prog_2 = some r) (w : World) (hc : cX w0 ⟨m, l⟩ w) :
    Calls Try.prog 6 [.int .i64 n_0, ulabels_1, uprog_2].toArray w fun e w' => e = .returned (.bool r) ∧ cX w0 ⟨m, l⟩ w' := by
  unfold syllogistlaw_FlowCleans at hr
  refine calls_of_Tr (N := 39) Try.func6 rfl hc rfl (Nat.le_of_ble_eq_true rfl) ?_
  refine Tr.seq ?_
  refine Tr.region_f (fun _ => false) ?_
  refine W.q rfl rfl rfl rfl (by decide) (Yd.as rfl .c) ?_
  refine W.end ?_
  refine NX.sub (env' := [(0, _), (1, _), (2, _)]) ⟨rfl, rfl, rfl, trivial⟩ ?_
  refine NX.then ?_
  refine Tr.seq ?_
  obtain ⟨r1, hr2, hr⟩ := bind_some hr
  refine Tr.region_f (fun _ => false) ?_
  refine W.q rfl rfl rfl rfl (by decide) (Yd.mv rfl (.t rfl)) ?_
  refine W.q rfl rfl rfl rfl (by decide) (Yd.mv rfl (.t rfl)) ?_
  refine W.q rfl rfl rfl rfl (by decide) (Yd.mv rfl (.t rfl)) ?_
  refine W.q rfl rfl rfl rfl (by decide) (Yd.call (v := .tuple #[.bool r1.1, .int .i64 r1.2]) rfl Try.func21 rfl rfl (.cons (.t rfl) (.cons (.t rfl) (.cons (.t rfl) .nil))) (fun x' hx w hw => flow_Clean_ok w0 x'.m x'.l fuel n_0 _ _ (hlabels_1.mono hx.1) _ _ (hprog_2.mono hx.1) _ hr2 w hw)) ?_
  refine W.q rfl rfl rfl rfl (by decide) (Yd.mv rfl (.t rfl)) ?_
  refine W.q rfl rfl rfl rfl (by decide) (Yd.ext rfl (.t rfl) rfl) ?_
  refine W.q rfl rfl rfl rfl (by decide) (Yd.ext rfl (.t rfl) rfl) ?_
  refine W.q rfl rfl rfl rfl (by decide) (Yd.as rfl (.t rfl)) ?_
  refine W.q rfl rfl rfl rfl (by decide) (Yd.as rfl (.t rfl)) ?_
  refine W.end ?_
  refine NX.sub (env' := [(0, _), (1, _), (2, _), (7, _), (8, _)]) ⟨rfl, rfl, rfl, rfl, rfl, trivial⟩ ?_
  refine NX.then ?_
  refine Tr.seq ?_
  obtain ⟨r3, hr4, hr⟩ := bind_some hr
  refine Tr.region_f (fun _ => false) ?_
  refine W.q rfl rfl rfl rfl (by decide) (Yd.mv rfl (.t rfl)) ?_
  refine W.q rfl rfl rfl rfl (by decide) (Yd.mv rfl (.t rfl)) ?_
  refine W.q rfl rfl rfl rfl (by decide) (Yd.mv rfl (.t rfl)) ?_
  refine W.q rfl rfl rfl rfl (by decide) (Yd.call (v := .int .i64 r3) rfl Try.func22 rfl rfl (.cons (.t rfl) (.cons (.t rfl) (.cons (.t rfl) .nil))) (fun x' hx w hw => syllogistlaw_flowCode_ok w0 x'.m x'.l fuel n_0 _ _ (hlabels_1.mono hx.1) _ _ (hprog_2.mono hx.1) _ hr4 w hw)) ?_
  refine W.q rfl rfl rfl rfl (by decide) (Yd.as rfl (.t rfl)) ?_
  refine W.end ?_
  refine NX.sub (env' := [(1, _), (2, _), (7, _), (8, _), (9, _)]) ⟨rfl, rfl, rfl, rfl, rfl, trivial⟩ ?_
  refine NX.then ?_
  refine Tr.seq ?_
  refine Tr.seq ?_
  refine Tr.region_f (fun _ => false) ?_
  refine W.q rfl rfl rfl rfl (by decide) (Yd.mv rfl (.t rfl)) ?_
  refine W.q rfl rfl rfl rfl (by decide) (Yd.neq rfl (.t rfl) .c) ?_
  refine W.end ?_
  refine NX.sub (env' := [(1, _), (2, _), (7, _), (8, _), (9, _), (22, _)]) ⟨rfl, rfl, rfl, rfl, rfl, rfl, trivial⟩ ?_
  refine NX.then ?_
  refine Tr.cond (.t rfl) (fun hb => ?_) (fun hb => ?_)
  · have hr := cond_t hb hr
    refine Tr.seq ?_
    refine Tr.region_f (fun _ => false) ?_
    refine W.q rfl rfl rfl rfl (by decide) (Yd.mv rfl (.t rfl)) ?_
    refine W.q rfl rfl rfl rfl (by decide) (Yd.mv rfl (.t rfl)) ?_
    refine W.q rfl rfl rfl rfl (by decide) (Yd.eql rfl (.t rfl) (.t rfl)) ?_
    refine W.q rfl rfl rfl rfl (by decide) (Yd.mv rfl (.t rfl)) ?_
    refine W.g rfl rfl rfl rfl rfl (.t rfl _) rfl (by decide) (fun hG => Yd.mv rfl (.t rfl)) ?_
    refine W.g rfl rfl rfl rfl rfl (.t rfl _) rfl (by decide) (fun hG => Yd.not rfl (.g rfl hG)) ?_
    refine W.q rfl rfl rfl rfl (by decide) (Yd.and rfl (.t rfl) .c rfl rfl) ?_
    refine W.q rfl rfl rfl rfl (by decide) (Yd.as rfl (.t rfl)) ?_
    refine W.end ?_
    refine NX.sub (env' := [(6, _)]) ⟨rfl, trivial⟩ ?_
    refine NX.then ?_
    refine Tr.ret' (RT.then ?_)
    refine res1 rfl rfl ?_
    intro w hc
    cases hr
    exact ⟨rfl, hc⟩
  · have hr := cond_f hb hr
    refine Tr.skip' ?_
    refine NX.then ?_
    refine Tr.seq ?_
    obtain ⟨ha5, hr⟩ := guard_some hr
    refine Tr.region_f (fun _ => false) ?_
    refine W.q rfl rfl rfl rfl (by decide) (Yd.mv rfl (.t rfl)) ?_
    refine W.q rfl rfl rfl rfl (by decide) (Yd.eql rfl (.t rfl) .c) ?_
    refine W.q rfl rfl rfl rfl (by decide) (Yd.mv rfl (.t rfl)) ?_
    refine W.g rfl rfl rfl rfl rfl (.t rfl _) rfl (by decide) (fun hG => Yd.mv rfl (.t rfl)) ?_
    refine W.g rfl rfl rfl rfl rfl (.t rfl _) rfl (by decide) (fun hG => Yd.mv rfl (.t rfl)) ?_
    refine W.g rfl rfl rfl rfl rfl (.t rfl _) rfl (by decide) (fun hG => Yd.mv rfl (.t rfl)) ?_
    refine W.g rfl rfl rfl rfl rfl (.t rfl _) rfl (by decide) (fun hG => Yd.call (v := .bool ((((syllogistref_Clean fuel prog_2 labels_1).getD false)))) rfl Try.func23 rfl rfl (.cons (.g rfl hG) (.cons (.g rfl hG) .nil)) (fun x' hx w hw => syllogistref_Clean_ok w0 x'.m x'.l fuel _ _ (hprog_2.mono hx.1) _ _ (hlabels_1.mono hx.1) _ (gd_get (d := false) ha5 hG) w hw)) ?_
    refine W.g rfl rfl rfl rfl rfl (.t rfl _) rfl (by decide) (fun hG => Yd.eqlB Try.underlying4 rfl (.g rfl hG) (.g rfl hG)) ?_
    refine W.q rfl rfl rfl rfl (by decide) (Yd.and rfl (.t rfl) .c rfl rfl) ?_
    refine W.q rfl rfl rfl rfl (by decide) (Yd.as rfl (.t rfl)) ?_
    refine W.end ?_
    refine NX.sub (env' := [(6, _)]) ⟨rfl, trivial⟩ ?_
    refine NX.then ?_
    refine Tr.ret' ?_
    refine res1 rfl rfl ?_
    intro w hc
    cases hr
    exact ⟨rfl, hc⟩

def flow_Raise_k13 (l11 : List Label) : Option ((List Label) × Int) :=
  some ((l11, (0 : Int)))

def flow_Raise_b15 (prog_2 : List Line) (fuel : Nat) (l9 : List Label) (nx16 : (List Label) → Option ((List Label) × Int)) : Option ((List Label) × Int) :=
  (flow_raise fuel prog_2 l9 (({ level := (0 : Int), parts := (0#32) } : Label))).bind fun r18 =>
  (bif (!r18.1) then
  nx16 r18.2
  else
  flow_Raise_k13 r18.2)

def flow_Raise (fuel : Nat) (n_0 : Int) (labels_1 : List Label) (prog_2 : List Line) : Option ((List Label) × Int) :=
  (flow_labeled fuel n_0 labels_1 prog_2).bind fun r1 =>
  (bif (r1 != (0 : Int)) then
  some (([], r1))
  else
  (slices_Clone_SapiLabelapiLabel labels_1).bind fun r3 =>
  whileK (σ := (List Label)) (fun s nx_ => flow_Raise_b15 prog_2 fuel s nx_) fuel r3)

set_option maxRecDepth 100000 in
set_option maxHeartbeats 4000000 in
theorem flow_Raise_ok (w0 : World) (m : Snap) (l : List HI) (fuel : Nat) (n_0 : Int) (ulabels_1 : Value) (labels_1 : List Label) (hlabels_1 : RS rLabel m ulabels_1 labels_1) (uprog_2 : Value) (prog_2 : List Line) (hprog_2 : RS rLine m uprog_2 prog_2) (r : (List Label) × Int) (hr : flow_Raise fuel n_0 labels_1 prog_2 = some r) (w : World) (hc : cX w0 ⟨m, l⟩ w) :
    Calls Try.prog 24 [.int .i64 n_0, ulabels_1, uprog_2].toArray w fun e w' => ∃ z0 : Value, e = .returned (.tuple #[z0, .int .i64 r.2]) ∧ cX w0 ⟨m, hownT 65 2 Label.enc z0 r.1 :: l⟩ w' := by
  unfold flow_Raise at hr
  refine calls_of_Tr (N := 24) Try.func24 rfl hc rfl (Nat.le_of_ble_eq_true rfl) ?_
  refine Tr.seq ?_
  refine Tr.region_f (fun _ => false) ?_
  refine W.q rfl rfl rfl rfl (by decide) (Yd.as rfl .c) ?_
  refine W.q rfl rfl rfl rfl (by decide) (Yd.as rfl .c) ?_
  refine W.end ?_
  refine NX.sub (env' := [(0, _), (1, _), (2, _)]) ⟨rfl, rfl, rfl, trivial⟩ ?_
  refine NX.then ?_
  refine Tr.seq ?_
  refine Tr.seq ?_
  obtain ⟨r1, hr2, hr⟩ := bind_some hr
  refine Tr.region_f (fun _ => false) ?_
  refine W.q rfl rfl rfl rfl (by decide) (Yd.mv rfl (.t rfl)) ?_
  refine W.q rfl rfl rfl rfl (by decide) (Yd.mv rfl (.t rfl)) ?_
  refine W.q rfl rfl rfl rfl (by decide) (Yd.mv rfl (.t rfl)) ?_
  refine W.q rfl rfl rfl rfl (by decide) (Yd.call (v := .int .i64 r1) rfl Try.func48 rfl rfl (.cons (.t rfl) (.cons (.t rfl) (.cons (.t rfl) .nil))) (fun x' hx w hw => flow_labeled_ok w0 x'.m x'.l fuel n_0 _ _ (hlabels_1.mono hx.1) _ _ (hprog_2.mono hx.1) _ hr2 w hw)) ?_
  refine W.q rfl rfl rfl rfl (by decide) (Yd.as rfl (.t rfl)) ?_
  refine W.end ?_
  refine NX.sub (env' := [(1, _), (2, _), (8, _)]) ⟨rfl, rfl, rfl, trivial⟩ ?_
  refine NX.then ?_
  refine Tr.seq ?_
  refine Tr.region_f (fun _ => false) ?_
  refine W.q rfl rfl rfl rfl (by decide) (Yd.mv rfl (.t rfl)) ?_
  refine W.q rfl rfl rfl rfl (by decide) (Yd.neq rfl (.t rfl) .c) ?_
  refine W.end ?_
  refine NX.sub (env' := [(1, _), (2, _), (8, _), (14, _)]) ⟨rfl, rfl, rfl, rfl, trivial⟩ ?_
  refine NX.then ?_
  refine Tr.cond (.t rfl) (fun hb => ?_) (fun hb => ?_)
  · have hr := cond_t hb hr
    refine Tr.seq ?_
    refine Tr.region_f (fun _ => false) ?_
    refine W.q rfl rfl rfl rfl (by decide) (Yd.mv rfl (.t rfl)) ?_
    refine W.q rfl rfl rfl rfl (by decide) (Yd.as rfl .c) ?_
    refine W.q rfl rfl rfl rfl (by decide) (Yd.as rfl (.t rfl)) ?_
    refine W.end ?_
    refine NX.sub (env' := [(6, _), (7, _)]) ⟨rfl, rfl, trivial⟩ ?_
    refine NX.then ?_
    refine Tr.ret' (RT.then ?_)
    refine res2 rfl rfl rfl ?_
    intro w hc
    cases hr
    exact ⟨_, rfl, (cX_nil hc)⟩
  · have hr := cond_f hb hr
    refine Tr.skip' ?_
    refine NX.then ?_
    refine Tr.seq ?_
    obtain ⟨r3, hr4, hr⟩ := bind_some hr
    refine Tr.region_f (fun i => Nat.beq i 1) ?_
    refine W.q rfl rfl rfl rfl (by decide) (Yd.mv rfl (.t rfl)) ?_
    refine W.e rfl rfl rfl rfl (by decide) (Ef.call (R := fun z x' => ∃ v5 : Value, z = v5 ∧ x' = ⟨m, hownT 65 2 Label.enc v5 r3 :: l⟩) rfl Try.func39 rfl rfl (.cons (.t rfl) .nil) (fun w hw => (slices_Clone_SapiLabelapiLabel_ok w0 _ _ _ _ hlabels_1 _ hr4 w hw).mono fun e w' ⟨v5, he, hc'⟩ => ⟨_, _, he, ⟨v5, rfl, rfl⟩, hc'⟩)) ?_
    rintro v5 _ ⟨_, rfl, rfl⟩
    refine ⟨.inl rfl, ?_⟩
    refine W.cast (m' := m) (l' := hownT 65 2 Label.enc v5 _ :: l) rfl rfl ?_
    refine W.q rfl rfl rfl rfl (by decide) (Yd.as rfl (.t rfl)) ?_
    refine W.end ?_
    refine NX.sub (env' := [(1, _), (2, _)]) ⟨rfl, rfl, trivial⟩ ?_
    refine NX.then ?_
    refine Tr.seq ?_
    refine Tr.join (S := fun env x => ∃ l11 : List Label, ∃ v12 : Value, env = [(1, v12)] ∧ x = ⟨m, hownT 65 2 Label.enc v12 l11 :: l⟩ ∧ flow_Raise_k13 l11 = some r) ?_ (fun hk14 => ?_)
    · rintro _ _ ⟨l11, v12, rfl, rfl, hr⟩
      unfold flow_Raise_k13 at hr
      try dsimp only at hr
      refine NX.then ?_
      refine Tr.seq ?_
      refine Tr.region_f (fun _ => false) ?_
      refine W.q rfl rfl rfl rfl (by decide) (Yd.mv rfl (.t rfl)) ?_
      refine W.q rfl rfl rfl rfl (by decide) (Yd.as rfl (.t rfl)) ?_
      refine W.q rfl rfl rfl rfl (by decide) (Yd.as rfl .c) ?_
      refine W.end ?_
      refine NX.sub (env' := [(6, _), (7, _)]) ⟨rfl, rfl, trivial⟩ ?_
      refine NX.then ?_
      refine Tr.ret' ?_
      refine res2 rfl rfl rfl ?_
      intro w hc
      cases hr
      exact ⟨_, rfl, hc⟩
    refine Tr.block ?_
    refine Tr.sub (env' := [(1, _), (2, _)]) ⟨rfl, rfl, trivial⟩ ?_
    refine Tr.loop (S := fun n (z : (List Label)) env x => match z with | l9 => ∃ v10 : Value, env = [(1, v10), (2, uprog_2)] ∧ x = ⟨m, hownT 65 2 Label.enc v10 l9 :: l⟩ ∧ whileK (σ := (List Label)) (fun s nx_ => flow_Raise_b15 prog_2 fuel s nx_) n l9 = some r) _ r3 ⟨_, rfl, rfl, hr⟩ ?_
    rintro n17 l9 env x ⟨v10, rfl, rfl, hr⟩
    cases n17 with
    | zero => simp [whileK] at hr
    | succ n17 =>
      obtain ⟨nx16, hnx16, hr⟩ := whileK_succ hr
      try dsimp only at hr
      unfold flow_Raise_b15 at hr
      try dsimp only at hr
      refine Tr.seq ?_
      refine Tr.seq ?_
      obtain ⟨r18, hr19, hr⟩ := bind_some hr
      refine Tr.region_f (fun i => Nat.beq i 3) ?_
      refine W.q rfl rfl rfl rfl (by decide) (Yd.mv rfl (.t rfl)) ?_
      refine W.q rfl rfl rfl rfl (by decide) (Yd.mv rfl (.t rfl)) ?_
      refine W.q rfl rfl rfl rfl (by decide) (Yd.bld (cells := [.int .i64 ((0 : Int)), .int .u32 (((0#32)).toNat : Int)]) rfl ZI65 PL65 .nil rfl) ?_
      refine W.e rfl rfl rfl rfl (by decide) (Ef.call (R := fun z x' => z = .bool r18.1 ∧ x' = ⟨m, hownT 65 2 Label.enc v10 r18.2 :: l⟩) rfl Try.func49 rfl rfl (.cons (.t rfl) (.cons (.t rfl) (.cons (.t rfl) .nil))) (fun w hw => (flow_raise_ok w0 _ _ fuel _ _ hprog_2 _ _ (({ level := (0 : Int), parts := (0#32) } : Label)) _ hr19 w (cX_front (p := 0) hw rfl)).mono fun e w' ⟨he, hc'⟩ => ⟨_, _, he, ⟨rfl, rfl⟩, cX_back (p := 0) hc' rfl⟩)) ?_
      rintro _ _ ⟨rfl, rfl⟩
      refine ⟨.inl rfl, ?_⟩
      refine W.cast (m' := m) (l' := hownT 65 2 Label.enc v10 _ :: l) rfl rfl ?_
      refine W.q rfl rfl rfl rfl (by decide) (Yd.not rfl (.t rfl)) ?_
      refine W.end ?_
      refine NX.sub (env' := [(1, _), (2, _), (22, _)]) ⟨rfl, rfl, rfl, trivial⟩ ?_
      refine NX.then ?_
      refine Tr.cond (.t rfl) (fun hb => ?_) (fun hb => ?_)
      · have hr := cond_t hb hr
        refine Tr.skip' ?_
        refine NX.then ?_
        refine Tr.block ?_
        refine Tr.skip' ?_
        refine NX.block ?_
        refine NX.sub (env' := [(1, _), (2, _)]) ⟨rfl, rfl, trivial⟩ ?_
        exact NX.again n17 r18.2 (Nat.lt_succ_self _) ⟨_, rfl, rfl, ((hnx16 _).symm.trans hr)⟩
      · have hr := cond_f hb hr
        refine Tr.exit' (EX.then (EX.then (EX.block ?_)))
        refine NX.sub (env' := [(1, _)]) ⟨rfl, trivial⟩ ?_
        exact hk14 _ _ ⟨_, _, rfl, rfl, hr⟩

def syllogistref_Raised_k13 (labels_9 : List Label) : Option ((List Label)) :=
  some labels_9

def syllogistref_Raised_k36 (nx16 : ((List Label) → Option ((List Label)))) (l34 : List Label) : Option ((List Label)) :=
  nx16 l34

def syllogistref_Raised_b42 (r24 : (List Deed)) (t_41 : Int) (l32 : List Label) (nx43 : (List Label) → Option ((List Label))) : Option ((List Label)) :=
  (geti r24 t_41).bind fun y45 =>
  (geti l32 y45.to).bind fun y49 =>
  (syllogistref_Both y49 (({ level := y45.label.level, parts := y45.label.parts } : Label))).bind fun r51 =>
  nx43 (l32.set y45.to.toNat r51)

def syllogistref_Raised_b15 (prog_0 : List Line) (fuel : Nat) (labels_5 : List Label) (nx16 : (List Label) → Option ((List Label))) : Option ((List Label)) :=
  (syllogistref_Clean fuel prog_0 labels_5).bind fun r18 =>
  (bif (!r18) then
  bif decide ((([] : List Label)).length + labels_5.length ≤ 8796093022208) then
  (syllogistref_Needs fuel prog_0 labels_5 (({ level := (0 : Int), parts := (0#32) } : Label))).bind fun r24 =>
  forK (σ := (List Label)) (fun i s nx_ => syllogistref_Raised_b42 r24 i s nx_) (fun s => syllogistref_Raised_k36 nx16 s) ((r24.length : Int) - (0 : Int)).toNat (0 : Int) ((([] : List Label) ++ labels_5)) else none
  else
  syllogistref_Raised_k13 labels_5)

def syllogistref_Raised (fuel : Nat) (prog_0 : List Line) (labels_1 : List Label) : Option ((List Label)) :=
  whileK (σ := (List Label)) (fun s nx_ => syllogistref_Raised_b15 prog_0 fuel s nx_) fuel labels_1

set_option maxRecDepth 100000 in
set_option maxHeartbeats 4000000 in
theorem syllogistref_Raised_ok (w0 : World) (m : Snap) (l : List HI) (fuel : Nat) (uprog_0 : Value) (prog_0 : List Line) (hprog_0 : RS rLine m uprog_0 prog_0) (ulabels_1 : Value) (labels_1 : List Label) (hlabels_1 : RS rLabel m ulabels_1 labels_1) (r : (List Label)) (hr : syllogistref_Raised fuel prog_0 labels_1 = some r) (w : World) (hc : cX w0 ⟨m, l⟩ w) :
    Calls Try.prog 25 [uprog_0, ulabels_1].toArray w fun e w' => ∃ z0 : Value, ∃ m1 : Snap, e = .returned (z0) ∧ Sle m m1 ∧ RS rLabel m1 z0 r ∧ cX w0 ⟨m1, l⟩ w' := by
  unfold syllogistref_Raised at hr
  refine calls_of_Tr (N := 39) Try.func25 rfl hc rfl (Nat.le_of_ble_eq_true rfl) ?_
  refine Tr.seq ?_
  refine Tr.region_f (fun _ => false) ?_
  refine W.q rfl rfl rfl rfl (by decide) (Yd.as rfl .c) ?_
  refine W.end ?_
  refine NX.sub (env' := [(0, _), (1, _)]) ⟨rfl, rfl, trivial⟩ ?_
  refine NX.then ?_
  refine Tr.seq ?_
  refine Tr.join (S := fun env x => ∃ labels_9 : List Label, ∃ m12 : Snap, ∃ u10 : Value, Sle m m12 ∧ RS rLabel m12 u10 labels_9 ∧ env = [(1, u10)] ∧ x = ⟨m12, l⟩ ∧ syllogistref_Raised_k13 labels_9 = some r) ?_ (fun hk14 => ?_)
  · rintro _ _ ⟨labels_9, m12, u10, hsm12, hu11, rfl, rfl, hr⟩
    unfold syllogistref_Raised_k13 at hr
    try dsimp only at hr
    have hprog_0 := hprog_0.mono hsm12
    have hlabels_1 := hlabels_1.mono hsm12
    refine NX.then ?_
    refine Tr.seq ?_
    refine Tr.region_f (fun _ => false) ?_
    refine W.q rfl rfl rfl rfl (by decide) (Yd.mv rfl (.t rfl)) ?_
    refine W.q rfl rfl rfl rfl (by decide) (Yd.as rfl (.t rfl)) ?_
    refine W.end ?_
    refine NX.sub (env' := [(4, _)]) ⟨rfl, trivial⟩ ?_
    refine NX.then ?_
    refine Tr.ret' ?_
    refine res1 rfl rfl ?_
    intro w hc
    cases hr
    exact ⟨_, _, rfl, hsm12, hu11, hc⟩
  refine Tr.block ?_
  refine Tr.sub (env' := [(0, _), (1, _)]) ⟨rfl, rfl, trivial⟩ ?_
  refine Tr.loop (S := fun n (z : (List Label)) env x => match z with | labels_5 => ∃ m8 : Snap, ∃ u6 : Value, Sle m m8 ∧ RS rLabel m8 u6 labels_5 ∧ env = [(0, uprog_0), (1, u6)] ∧ x = ⟨m8, l⟩ ∧ whileK (σ := (List Label)) (fun s nx_ => syllogistref_Raised_b15 prog_0 fuel s nx_) n labels_5 = some r) _ labels_1 ⟨_, _, (.refl _), hlabels_1, rfl, rfl, hr⟩ ?_
  rintro n17 labels_5 env x ⟨m8, u6, hsm8, hu7, rfl, rfl, hr⟩
  have hprog_0 := hprog_0.mono hsm8
  have hlabels_1 := hlabels_1.mono hsm8
  cases n17 with
  | zero => simp [whileK] at hr
  | succ n17 =>
    obtain ⟨nx16, hnx16, hr⟩ := whileK_succ hr
    try dsimp only at hr
    unfold syllogistref_Raised_b15 at hr
    try dsimp only at hr
    refine Tr.seq ?_
    refine Tr.seq ?_
    obtain ⟨r18, hr19, hr⟩ := bind_some hr
    refine Tr.region_f (fun _ => false) ?_
    refine W.q rfl rfl rfl rfl (by decide) (Yd.mv rfl (.t rfl)) ?_
    refine W.q rfl rfl rfl rfl (by decide) (Yd.mv rfl (.t rfl)) ?_
    refine W.q rfl rfl rfl rfl (by decide) (Yd.call (v := .bool r18) rfl Try.func23 rfl rfl (.cons (.t rfl) (.cons (.t rfl) .nil)) (fun x' hx w hw => syllogistref_Clean_ok w0 x'.m x'.l fuel _ _ (hprog_0.mono hx.1) _ _ (hu7.mono hx.1) _ hr19 w hw)) ?_
    refine W.q rfl rfl rfl rfl (by decide) (Yd.not rfl (.t rfl)) ?_
    refine W.end ?_
    refine NX.sub (env' := [(0, _), (1, _), (11, _)]) ⟨rfl, rfl, rfl, trivial⟩ ?_
    refine NX.then ?_
    refine Tr.cond (.t rfl) (fun hb => ?_) (fun hb => ?_)
    · have hr := cond_t hb hr
      refine Tr.skip' ?_
      refine NX.then ?_
      refine Tr.block ?_
      refine Tr.seq ?_
      obtain ⟨hq23, hr⟩ := guard_some hr; replace hq23 := of_decide_eq_true hq23
      refine Tr.region_f (fun i => Nat.beq i 0 || Nat.beq i 2) ?_
      refine W.e rfl rfl rfl rfl (by decide) (Ef.bsT (enc := Label.enc) (vs := []) (ys := []) (fun _ => rfl) IF65 rfl Try.underlying22 (by decide) rfl .nil rfl rfl (by decide)) ?_
      rintro v20 _ rfl
      refine ⟨.inl rfl, ?_⟩
      refine W.cast (m' := m8) (l' := hownT 65 2 Label.enc v20 _ :: l) rfl rfl ?_
      refine W.q rfl rfl rfl rfl (by decide) (Yd.mv rfl (.t rfl)) ?_
      refine W.e rfl rfl rfl rfl (by decide) (Ef.apI (pos := 0) (enc := Label.enc) (xs := ([] : List Label)) (ys := labels_5) (fun _ => rfl) IF65 rfl rfl Try.underlying22 rfl (by decide) (.t rfl) (.t rfl) (Src.rs (by decide) (.refl _) hu7) (fun _ => rfl) (by omega) (by omega)) ?_
      rintro v22 _ rfl
      refine ⟨.inl rfl, ?_⟩
      refine W.cast (m' := m8) (l' := hownT 65 2 Label.enc v22 _ :: l) rfl rfl ?_
      refine W.q rfl rfl rfl rfl (by decide) (Yd.as rfl (.t rfl)) ?_
      refine W.end ?_
      refine NX.sub (env' := [(0, _), (1, _), (5, _)]) ⟨rfl, rfl, rfl, trivial⟩ ?_
      refine NX.then ?_
      refine Tr.seq ?_
      refine Tr.seq ?_
      obtain ⟨r24, hr25, hr⟩ := bind_some hr
      refine Tr.region_f (fun i => Nat.beq i 3) ?_
      refine W.q rfl rfl rfl rfl (by decide) (Yd.mv rfl (.t rfl)) ?_
      refine W.q rfl rfl rfl rfl (by decide) (Yd.mv rfl (.t rfl)) ?_
      refine W.q rfl rfl rfl rfl (by decide) (Yd.bld (cells := [.int .i64 ((0 : Int)), .int .u32 (((0#32)).toNat : Int)]) rfl ZI65 PL65 .nil rfl) ?_
      refine W.e rfl rfl rfl rfl (by decide) (Ef.call (R := fun z x' => ∃ v26 : Value, z = v26 ∧ x' = ⟨m8, hownT 67 6 Deed.enc v26 r24 :: hownT 65 2 Label.enc v22 ((([] : List Label) ++ labels_5)) :: l⟩) rfl Try.func50 rfl rfl (.cons (.t rfl) (.cons (.t rfl) (.cons (.t rfl) .nil))) (fun w hw => (syllogistref_Needs_ok w0 _ _ fuel _ _ hprog_0 _ _ hu7 (({ level := (0 : Int), parts := (0#32) } : Label)) _ hr25 w hw).mono fun e w' ⟨v26, he, hc'⟩ => ⟨_, _, he, ⟨v26, rfl, rfl⟩, hc'⟩)) ?_
      rintro v26 _ ⟨_, rfl, rfl⟩
      refine ⟨.inl rfl, ?_⟩
      refine W.cast (m' := m8) (l' := hownT 67 6 Deed.enc v26 _ :: hownT 65 2 Label.enc v22 _ :: l) rfl rfl ?_
      refine W.q rfl rfl rfl rfl (by decide) (Yd.lenO (p := 0) rfl rfl Try.underlying23 (.t rfl)) ?_
      refine W.q rfl rfl rfl rfl (by decide) (Yd.mv rfl .c) ?_
      refine W.end ?_
      refine NX.sub (env' := [(0, _), (5, _), (18, _), (19, _), (20, _)]) ⟨rfl, rfl, rfl, rfl, rfl, trivial⟩ ?_
      refine NX.then ?_
      refine Tr.join (S := fun env x => ∃ l34 : List Label, ∃ v35 : Value, env = [(0, uprog_0), (5, v35)] ∧ x = ⟨m8, hownT 65 2 Label.enc v35 l34 :: l⟩ ∧ syllogistref_Raised_k36 nx16 l34 = some r) ?_ (fun hk37 => ?_)
      · rintro _ _ ⟨l34, v35, rfl, rfl, hr⟩
        unfold syllogistref_Raised_k36 at hr
        try dsimp only at hr
        refine NX.then ?_
        refine Tr.region_f (fun _ => false) ?_
        refine W.q rfl rfl rfl rfl (by decide) (Yd.mv rfl (.t rfl)) ?_
        refine W.q rfl rfl rfl rfl (by decide) (Yd.as rfl (.t rfl)) ?_
        refine W.end ?_
        refine NX.sub (env' := [(0, _), (1, _)]) ⟨rfl, rfl, trivial⟩ ?_
        refine NX.block ?_
        refine NX.freezeT (enc := Label.enc) (n := 2) (pos := 0) (xs := l34) (fun _ => rfl) rfl (fun m38 hsm38 hu39 => ?_)
        have hprog_0 := hprog_0.mono hsm38
        have hlabels_1 := hlabels_1.mono hsm38
        have hu7 := hu7.mono hsm38
        refine NX.cast (m' := m38) (l' := l) rfl rfl ?_
        refine NX.sub (env' := [(0, _), (1, _)]) ⟨rfl, rfl, trivial⟩ ?_
        exact NX.again n17 l34 (Nat.lt_succ_self _) ⟨_, _, (hsm8.trans hsm38), hu39, rfl, rfl, ((hnx16 _).symm.trans hr)⟩
      refine Tr.lenO (pos := 0) rfl (fun hlen40 => ?_)
      refine Tr.block ?_
      refine Tr.sub (env' := [(0, _), (5, _), (18, _), (19, _), (20, _)]) ⟨rfl, rfl, rfl, rfl, rfl, trivial⟩ ?_
      refine Tr.loop (S := fun n (z : Int × (List Label)) env x => match z with | (t_41, l32) => ∃ v33 : Value, env = [(0, uprog_0), (5, v33), (18, v26), (19, .int .i64 ((r24.length : Int))), (20, .int .i64 t_41)] ∧ x = ⟨m8, hownT 67 6 Deed.enc v26 r24 :: hownT 65 2 Label.enc v33 l32 :: l⟩ ∧ n = ((r24.length : Int) - t_41).toNat ∧ 0 ≤ t_41 ∧ forK (σ := (List Label)) (fun i s nx_ => syllogistref_Raised_b42 r24 i s nx_) (fun s => syllogistref_Raised_k36 nx16 s) n t_41 l32 = some r) _ ((0 : Int), (([] : List Label) ++ labels_5)) ⟨_, rfl, rfl, rfl, (by omega), hr⟩ ?_
      rintro n44 ⟨t_41, l32⟩ env x ⟨v33, rfl, rfl, hnt_41, h0t_41, hr⟩
      cases n44 with
      | zero =>
        simp only [forK] at hr
        refine Tr.seq ?_
        refine Tr.region_f (fun _ => false) ?_
        refine W.q rfl rfl rfl rfl (by decide) (Yd.lss rfl (.t rfl) (.t rfl)) ?_
        refine W.end ?_
        refine NX.sub (env' := [(0, _), (5, _), (18, _), (19, _), (20, _), (21, _)]) ⟨rfl, rfl, rfl, rfl, rfl, rfl, trivial⟩ ?_
        refine NX.then ?_
        refine Tr.seq ?_
        refine Tr.cond (.t rfl) (fun hb => ?_) (fun hb => ?_)
        · exact absurd (hb.symm.trans (fr_end hnt_41)) (by decide)
        ·
          refine Tr.exit' (EX.then (EX.then (EX.block ?_)))
          refine NX.sub (env' := [(0, _), (5, _)]) ⟨rfl, rfl, trivial⟩ ?_
          refine NX.drop (l' := hownT 65 2 Label.enc v33 _ :: l) (.cons _ (.cons_cons _ (.refl _))) ?_
          exact hk37 _ _ ⟨_, _, rfl, rfl, hr⟩
      | succ n44 =>
        obtain ⟨nx43, hnx43, hr⟩ := forK_succ hr
        try dsimp only at hr
        unfold syllogistref_Raised_b42 at hr
        try dsimp only at hr
        have hltt_41 := fr_bnd hnt_41
        refine Tr.seq ?_
        refine Tr.region_f (fun _ => false) ?_
        refine W.q rfl rfl rfl rfl (by decide) (Yd.lss rfl (.t rfl) (.t rfl)) ?_
        refine W.end ?_
        refine NX.sub (env' := [(0, _), (5, _), (18, _), (19, _), (20, _), (21, _)]) ⟨rfl, rfl, rfl, rfl, rfl, rfl, trivial⟩ ?_
        refine NX.then ?_
        refine Tr.seq ?_
        refine Tr.cond (.t rfl) (fun hb => ?_) (fun hb => ?_)
        rotate_left
        · exact absurd (hb.symm.trans (fr_go hnt_41)) (by decide)
        ·
          refine Tr.skip' ?_
          refine NX.then ?_
          refine Tr.seq ?_
          refine Tr.block ?_
          refine Tr.seq ?_
          obtain ⟨y45, hy46, hr⟩ := bind_some hr
          refine Tr.region_f (fun i => Nat.beq i 2 || Nat.beq i 3) ?_
          refine W.q rfl rfl rfl rfl (by decide) (Yd.idxT (pos := 0) rfl hy46 rfl Try.underlying23 SZ67 (.t rfl) (.t rfl)) ?_
          refine W.q rfl rfl rfl rfl (by decide) (Yd.ldTs (enc := Deed.enc) (n := 6) (pos := 0) (us := [_, _, _, _, _, _]) (fun _ => rfl) rfl hy46 rfl (by decide) rfl ON67 US67 SZ67 (.t rfl)) ?_
          refine W.e rfl rfl rfl rfl (by decide) (Ef.al rfl ZR67 rfl) ?_
          rintro _ _ ⟨b47, rfl, rfl⟩
          refine ⟨.inl rfl, ?_⟩
          refine W.cast (m' := m8) (l' := hcells b47 [_, _, _, _, _, _] 67 :: hownT 67 6 Deed.enc v26 _ :: hownT 65 2 Label.enc v33 _ :: l) rfl rfl ?_
          refine W.s rfl rfl rfl rfl (Ef.stB (pos := 0) (us := [_, _, _, _, _, _]) (cs' := [_, _, _, _, _, _]) rfl rfl (.t rfl) (.t rfl) SZ67 rfl rfl rfl (Nat.le_of_ble_eq_true rfl) rfl) ?_
          rintro _ _ ⟨rfl, rfl⟩
          refine ⟨.inl rfl, ?_⟩
          refine W.cast (m' := m8) (l' := hcells b47 [_, _, _, _, _, _] 67 :: hownT 67 6 Deed.enc v26 _ :: hownT 65 2 Label.enc v33 _ :: l) rfl rfl ?_
          refine W.end ?_
          refine NX.sub (env' := [(0, _), (5, _), (18, _), (19, _), (20, _), (7, _)]) ⟨rfl, rfl, rfl, rfl, rfl, rfl, trivial⟩ ?_
          refine NX.then ?_
          obtain ⟨y49, hy50, hr⟩ := bind_some hr
          obtain ⟨r51, hr52, hr⟩ := bind_some hr
          refine Tr.region_x (fun i => Nat.beq i 12) (fun i => Nat.beq i 12) (Ord.of [0, 1, 2, 3, 4, 5, 6, 7, 8, 9, 10, 11, 12]) FM (by kernel_rfl) ?_
          refine W.q rfl rfl rfl rfl (by decide) (Yd.mv rfl (.t rfl)) ?_
          refine W.q rfl rfl rfl rfl (by decide) (Yd.fldB rfl Try.underlying67 rfl SZ3 rfl (.t rfl)) ?_
          refine W.q rfl rfl rfl rfl (by decide) (Yd.ldB (pos := 0) rfl rfl rfl ON3 (.t rfl)) ?_
          refine W.q rfl rfl rfl rfl (by decide) (Yd.mv rfl (.t rfl)) ?_
          refine W.q rfl rfl rfl rfl (by decide) (Yd.fldB rfl Try.underlying67 rfl SZ3 rfl (.t rfl)) ?_
          refine W.q rfl rfl rfl rfl (by decide) (Yd.ldB (pos := 0) rfl rfl rfl ON3 (.t rfl)) ?_
          refine W.q rfl rfl rfl rfl (by decide) (Yd.idxT (pos := 2) rfl hy50 rfl Try.underlying22 SZ65 (.t rfl) (.t rfl)) ?_
          refine W.q rfl rfl rfl rfl (by decide) (Yd.ldTs (enc := Label.enc) (n := 2) (pos := 2) (us := [_, _]) (fun _ => rfl) rfl hy50 rfl (by decide) rfl ON65 US65 SZ65 (.t rfl)) ?_
          refine W.q rfl rfl rfl rfl (by decide) (Yd.fldB rfl Try.underlying67 rfl SZ65 rfl (.t rfl)) ?_
          refine W.q rfl rfl rfl rfl (by decide) (Yd.ldBs (pos := 0) (us := [_, _]) rfl rfl rfl rfl ON65 US65 SZ65 (.t rfl)) ?_
          refine W.q rfl rfl rfl rfl (by decide) (Yd.call (v := .agg #[.int .i64 r51.level, .int .u32 (r51.parts.toNat : Int)]) rfl Try.func37 rfl rfl (.cons (.t rfl) (.cons (.t rfl) .nil)) (fun x' hx w hw => syllogistref_Both_ok w0 x'.m x'.l y49 (({ level := y45.label.level, parts := y45.label.parts } : Label)) _ hr52 w hw)) ?_
          refine W.q rfl rfl rfl rfl (by decide) (Yd.idxT (pos := 2) rfl hy50 rfl Try.underlying22 SZ65 (.t rfl) (.t rfl)) ?_
          refine W.s rfl rfl rfl rfl (Ef.stT (enc := Label.enc) (n := 2) (pos := 2) (y := r51) (us := [_, _]) (fun _ => rfl) rfl hy50 rfl (.t rfl) (.t rfl) SZ65 rfl rfl rfl (by decide)) ?_
          rintro _ _ ⟨rfl, rfl⟩
          refine ⟨.inl rfl, ?_⟩
          refine W.cast (m' := m8) (l' := hcells b47 [_, _, _, _, _, _] 67 :: hownT 67 6 Deed.enc v26 _ :: hownT 65 2 Label.enc v33 _ :: l) rfl rfl ?_
          refine W.end ?_
          refine NX.sub (env' := [(0, _), (5, _), (18, _), (19, _), (20, _)]) ⟨rfl, rfl, rfl, rfl, rfl, trivial⟩ ?_
          refine NX.drop (l' := hownT 67 6 Deed.enc v26 _ :: hownT 65 2 Label.enc v33 _ :: l) (.cons _ (.cons_cons _ (.cons_cons _ (.refl _)))) ?_
          refine NX.block ?_
          refine NX.then ?_
          refine Tr.region_f (fun _ => false) ?_
          refine W.q rfl rfl rfl rfl (by decide) (Yd.add rfl (.t rfl) .c) ?_
          refine W.q rfl rfl rfl rfl (by decide) (Yd.mv rfl (.t rfl)) ?_
          refine W.end ?_
          refine NX.sub (env' := [(0, _), (5, _), (18, _), (19, _), (20, _)]) ⟨rfl, rfl, rfl, rfl, rfl, trivial⟩ ?_
          refine NX.sub (env' := [(0, _), (5, _), (18, _), (19, _), (20, _)]) ⟨rfl, rfl, rfl, rfl, rfl, trivial⟩ ?_
          have hw := w64_id (n := t_41 + 1) (by omega) (by omega)
          exact NX.again n44 (t_41 + 1, (l32.set y45.to.toNat r51)) (Nat.lt_succ_self _) ⟨_, (by rw [hw] <;> rfl), rfl, (fr_dec hnt_41), (by omega), ((hnx43 _).symm.trans hr)⟩
    · have hr := cond_f hb hr
      refine Tr.exit' (EX.then (EX.then (EX.block ?_)))
      refine NX.sub (env' := [(1, _)]) ⟨rfl, trivial⟩ ?_
      exact hk14 _ _ ⟨_, _, _, hsm8, hu7, rfl, rfl, hr⟩

def syllogistref_Labels_k3 : Option (Bool) :=
  some true

def syllogistref_Labels_b7 (a_0 : List Label) (b_1 : List Label) (i_6 : Int) (nx8 : Unit → Option (Bool)) : Option (Bool) :=
  (geti a_0 i_6).bind fun y10 =>
  (geti b_1 i_6).bind fun y12 =>
  (bif (!((y10.level == y12.level) && ((y10.parts == y12.parts) && true))) then
  some false
  else
  nx8 ())

def syllogistref_Labels (a_0 : List Label) (b_1 : List Label) : Option (Bool) :=
  (bif ((a_0.length : Int) != (b_1.length : Int)) then
  some false
  else
  forK (σ := Unit) (fun i s nx_ => syllogistref_Labels_b7 a_0 b_1 i nx_) (fun _ => syllogistref_Labels_k3) ((a_0.length : Int) - (0 : Int)).toNat (0 : Int) ())

set_option maxRecDepth 100000 in
set_option maxHeartbeats 4000000 in
theorem syllogistref_Labels_ok (w0 : World) (m : Snap) (l : List HI) (ua_0 : Value) (a_0 : List Label) (ha_0 : RS rLabel m ua_0 a_0) (ub_1 : Value) (b_1 : List Label) (hb_1 : RS rLabel m ub_1 b_1) (r : Bool) (hr : syllogistref_Labels a_0 b_1 = some r) (w : World) (hc : cX w0 ⟨m, l⟩ w) :
    Calls Try.prog 14 [ua_0, ub_1].toArray w fun e w' => e = .returned (.bool r) ∧ cX w0 ⟨m, l⟩ w' := by
  unfold syllogistref_Labels at hr
  refine calls_of_Tr (N := 26) Try.func14 rfl hc rfl (Nat.le_of_ble_eq_true rfl) ?_
  refine Tr.seq ?_
  refine Tr.region_f (fun _ => false) ?_
  refine W.q rfl rfl rfl rfl (by decide) (Yd.as rfl .c) ?_
  refine W.end ?_
  refine NX.sub (env' := [(0, _), (1, _)]) ⟨rfl, rfl, trivial⟩ ?_
  refine NX.then ?_
  refine Tr.seq ?_
  refine Tr.seq ?_
  refine Tr.region_f (fun _ => false) ?_
  refine W.q rfl rfl rfl rfl (by decide) (Yd.mv rfl (.t rfl)) ?_
  refine W.q rfl rfl rfl rfl (by decide) (Yd.lenR ha_0 rfl Try.underlying22 (.t rfl)) ?_
  refine W.q rfl rfl rfl rfl (by decide) (Yd.mv rfl (.t rfl)) ?_
  refine W.q rfl rfl rfl rfl (by decide) (Yd.lenR hb_1 rfl Try.underlying22 (.t rfl)) ?_
  refine W.q rfl rfl rfl rfl (by decide) (Yd.neq rfl (.t rfl) (.t rfl)) ?_
  refine W.end ?_
  refine NX.sub (env' := [(0, _), (1, _), (10, _)]) ⟨rfl, rfl, rfl, trivial⟩ ?_
  refine NX.then ?_
  refine Tr.cond (.t rfl) (fun hb => ?_) (fun hb => ?_)
  · have hr := cond_t hb hr
    refine Tr.seq ?_
    refine Tr.region_f (fun _ => false) ?_
    refine W.q rfl rfl rfl rfl (by decide) (Yd.as rfl .c) ?_
    refine W.end ?_
    refine NX.sub (env' := [(4, _)]) ⟨rfl, trivial⟩ ?_
    refine NX.then ?_
    refine Tr.ret' (RT.then ?_)
    refine res1 rfl rfl ?_
    intro w hc
    cases hr
    exact ⟨rfl, hc⟩
  · have hr := cond_f hb hr
    refine Tr.skip' ?_
    refine NX.then ?_
    refine Tr.seq ?_
    refine Tr.seq ?_
    refine Tr.region_f (fun _ => false) ?_
    refine W.q rfl rfl rfl rfl (by decide) (Yd.as rfl .c) ?_
    refine W.end ?_
    refine NX.sub (env' := [(0, _), (1, _), (5, _)]) ⟨rfl, rfl, rfl, trivial⟩ ?_
    refine NX.then ?_
    refine Tr.join (S := fun env x => env = [] ∧ x = ⟨m, l⟩ ∧ syllogistref_Labels_k3 = some r) ?_ (fun hk4 => ?_)
    · rintro _ _ ⟨rfl, rfl, hr⟩
      unfold syllogistref_Labels_k3 at hr
      try dsimp only at hr
      refine NX.then ?_
      refine Tr.seq ?_
      refine Tr.region_f (fun _ => false) ?_
      refine W.q rfl rfl rfl rfl (by decide) (Yd.as rfl .c) ?_
      refine W.end ?_
      refine NX.sub (env' := [(4, _)]) ⟨rfl, trivial⟩ ?_
      refine NX.then ?_
      refine Tr.ret' ?_
      refine res1 rfl rfl ?_
      intro w hc
      cases hr
      exact ⟨rfl, hc⟩
    have hlen5 := (ha_0).2.1
    refine Tr.block ?_
    refine Tr.sub (env' := [(0, _), (1, _), (5, _)]) ⟨rfl, rfl, rfl, trivial⟩ ?_
    refine Tr.loop (S := fun n (z : Int × Unit) env x => match z with | (i_6, _) => env = [(0, ua_0), (1, ub_1), (5, .int .i64 i_6)] ∧ x = ⟨m, l⟩ ∧ n = ((a_0.length : Int) - i_6).toNat ∧ 0 ≤ i_6 ∧ forK (σ := Unit) (fun i s nx_ => syllogistref_Labels_b7 a_0 b_1 i nx_) (fun _ => syllogistref_Labels_k3) n i_6 () = some r) _ ((0 : Int), ()) ⟨rfl, rfl, rfl, (by omega), hr⟩ ?_
    rintro n9 ⟨i_6, _⟩ env x ⟨rfl, rfl, hni_6, h0i_6, hr⟩
    cases n9 with
    | zero =>
      simp only [forK] at hr
      refine Tr.seq ?_
      refine Tr.seq ?_
      refine Tr.region_f (fun _ => false) ?_
      refine W.q rfl rfl rfl rfl (by decide) (Yd.mv rfl (.t rfl)) ?_
      refine W.q rfl rfl rfl rfl (by decide) (Yd.mv rfl (.t rfl)) ?_
      refine W.q rfl rfl rfl rfl (by decide) (Yd.lenR ha_0 rfl Try.underlying22 (.t rfl)) ?_
      refine W.q rfl rfl rfl rfl (by decide) (Yd.lss rfl (.t rfl) (.t rfl)) ?_
      refine W.end ?_
      refine NX.sub (env' := [(0, _), (1, _), (5, _), (14, _)]) ⟨rfl, rfl, rfl, rfl, trivial⟩ ?_
      refine NX.then ?_
      refine Tr.cond (.t rfl) (fun hb => ?_) (fun hb => ?_)
      · exact absurd (hb.symm.trans (fr_end hni_6)) (by decide)
      ·
        refine Tr.exit' (EX.then (EX.then (EX.block ?_)))
        refine NX.sub (env' := []) trivial ?_
        exact hk4 _ _ ⟨rfl, rfl, hr⟩
    | succ n9 =>
      obtain ⟨nx8, hnx8, hr⟩ := forK_succ hr
      try dsimp only at hr
      unfold syllogistref_Labels_b7 at hr
      try dsimp only at hr
      have hlti_6 := fr_bnd hni_6
      refine Tr.seq ?_
      refine Tr.seq ?_
      refine Tr.region_f (fun _ => false) ?_
      refine W.q rfl rfl rfl rfl (by decide) (Yd.mv rfl (.t rfl)) ?_
      refine W.q rfl rfl rfl rfl (by decide) (Yd.mv rfl (.t rfl)) ?_
      refine W.q rfl rfl rfl rfl (by decide) (Yd.lenR ha_0 rfl Try.underlying22 (.t rfl)) ?_
      refine W.q rfl rfl rfl rfl (by decide) (Yd.lss rfl (.t rfl) (.t rfl)) ?_
      refine W.end ?_
      refine NX.sub (env' := [(0, _), (1, _), (5, _), (14, _)]) ⟨rfl, rfl, rfl, rfl, trivial⟩ ?_
      refine NX.then ?_
      refine Tr.cond (.t rfl) (fun hb => ?_) (fun hb => ?_)
      rotate_left
      · exact absurd (hb.symm.trans (fr_go hni_6)) (by decide)
      ·
        refine Tr.skip' ?_
        refine NX.then ?_
        refine Tr.seq ?_
        refine Tr.block ?_
        refine Tr.seq ?_
        obtain ⟨y10, hy11, hr⟩ := bind_some hr
        obtain ⟨y12, hy13, hr⟩ := bind_some hr
        refine Tr.region_x (fun _ => false) (fun _ => false) (Ord.of [0, 1, 2, 3, 4, 5, 6, 7, 8]) FM (by kernel_rfl) ?_
        refine W.q rfl rfl rfl rfl (by decide) (Yd.mv rfl (.t rfl)) ?_
        refine W.q rfl rfl rfl rfl (by decide) (Yd.mv rfl (.t rfl)) ?_
        refine W.q rfl rfl rfl rfl (by decide) (Yd.idxR ha_0 hy11 rfl Try.underlying22 SZ65 (.t rfl) (.t rfl)) ?_
        refine W.q rfl rfl rfl rfl (by decide) (Yd.ldFs (us := [_, _]) ha_0 (.refl _) hy11 rfl rfl ON65 US65 SZ65 (.t rfl)) ?_
        refine W.q rfl rfl rfl rfl (by decide) (Yd.mv rfl (.t rfl)) ?_
        refine W.q rfl rfl rfl rfl (by decide) (Yd.mv rfl (.t rfl)) ?_
        refine W.q rfl rfl rfl rfl (by decide) (Yd.idxR hb_1 hy13 rfl Try.underlying22 SZ65 (.t rfl) (.t rfl)) ?_
        refine W.q rfl rfl rfl rfl (by decide) (Yd.ldFs (us := [_, _]) hb_1 (.refl _) hy13 rfl rfl ON65 US65 SZ65 (.t rfl)) ?_
        refine W.q rfl rfl rfl rfl (by decide) (Yd.neA rfl GU65 (fun w => ne_of_eq (EQ65 w y10.level y10.parts y12.level y12.parts)) (.t rfl) (.t rfl)) ?_
        refine W.end ?_
        refine NX.sub (env' := [(0, _), (1, _), (5, _), (25, _)]) ⟨rfl, rfl, rfl, rfl, trivial⟩ ?_
        refine NX.then ?_
        refine Tr.cond (.t rfl) (fun hb => ?_) (fun hb => ?_)
        · have hr := cond_t hb hr
          refine Tr.seq ?_
          refine Tr.region_f (fun _ => false) ?_
          refine W.q rfl rfl rfl rfl (by decide) (Yd.as rfl .c) ?_
          refine W.end ?_
          refine NX.sub (env' := [(4, _)]) ⟨rfl, trivial⟩ ?_
          refine NX.then ?_
          refine Tr.ret' (RT.block (RT.then (RT.then (RT.block (RT.then ?_)))))
          refine res1 rfl rfl ?_
          intro w hc
          cases hr
          exact ⟨rfl, hc⟩
        · have hr := cond_f hb hr
          refine Tr.skip' ?_
          refine NX.block ?_
          refine NX.then ?_
          refine Tr.region_f (fun _ => false) ?_
          refine W.q rfl rfl rfl rfl (by decide) (Yd.mv rfl (.t rfl)) ?_
          refine W.q rfl rfl rfl rfl (by decide) (Yd.add rfl (.t rfl) .c) ?_
          refine W.q rfl rfl rfl rfl (by decide) (Yd.as rfl (.t rfl)) ?_
          refine W.end ?_
          refine NX.sub (env' := [(0, _), (1, _), (5, _)]) ⟨rfl, rfl, rfl, trivial⟩ ?_
          refine NX.sub (env' := [(0, _), (1, _), (5, _)]) ⟨rfl, rfl, rfl, trivial⟩ ?_
          have hw := w64_id (n := i_6 + 1) (by omega) (by omega)
          exact NX.again n9 (i_6 + 1, ()) (Nat.lt_succ_self _) ⟨(by rw [hw] <;> rfl), rfl, (fr_dec hni_6), (by omega), ((hnx8 _).symm.trans hr)⟩

def syllogistlaw_FlowRaises (fuel : Nat) (n_0 : Int) (labels_1 : List Label) (prog_2 : List Line) : Option (Bool) :=
  (flow_Raise fuel n_0 labels_1 prog_2).bind fun r1 =>
  (syllogistlaw_flowCode fuel n_0 labels_1 prog_2).bind fun r5 =>
  (bif (r5 != (0 : Int)) then
  some (((r1.2 == r5) && ((r1.1.length : Int) == (0 : Int))))
  else
  (bif ((r1.2 == (0 : Int)) == true) then
  (syllogistref_Raised fuel prog_2 labels_1).bind fun r8 =>
  (syllogistref_Labels r1.1 r8).bind fun r13 =>
  some (((r1.2 == (0 : Int)) && r13))
  else
  some (((r1.2 == (0 : Int)) && false))))

set_option maxRecDepth 100000 in
set_option maxHeartbeats 4000000 in
theorem syllogistlaw_FlowRaises_ok (w0 : World) (m : Snap) (l : List HI) (fuel : Nat) (n_0 : Int) (ulabels_1 : Value) (labels_1 : List Label) (hlabels_1 : RS rLabel m ulabels_1 labels_1) (uprog_2 : Value) (prog_2 : List Line) (hprog_2 : RS rLine m uprog_2 prog_2) (r : Bool) (hr : syllogistlaw_FlowRaises fuel n_0 labels_1 prog_2 = some r) (w : World) (hc : cX w0 ⟨m, l⟩ w) :
    Calls Try.prog 7 [.int .i64 n_0, ulabels_1, uprog_2].toArray w fun e w' => e = .returned (.bool r) ∧ cX w0 ⟨m, l⟩ w' := by
  unfold syllogistlaw_FlowRaises at hr
  refine calls_of_Tr (N := 40) Try.func7 rfl hc rfl (Nat.le_of_ble_eq_true rfl) ?_
  refine Tr.seq ?_
  refine Tr.region_f (fun _ => false) ?_
  refine W.q rfl rfl rfl rfl (by decide) (Yd.as rfl .c) ?_
  refine W.end ?_
  refine NX.sub (env' := [(0, _), (1, _), (2, _)]) ⟨rfl, rfl, rfl, trivial⟩ ?_
  refine NX.then ?_
  refine Tr.seq ?_
  obtain ⟨r1, hr2, hr⟩ := bind_some hr
  refine Tr.region_f (fun i => Nat.beq i 3) ?_
  refine W.q rfl rfl rfl rfl (by decide) (Yd.mv rfl (.t rfl)) ?_
  refine W.q rfl rfl rfl rfl (by decide) (Yd.mv rfl (.t rfl)) ?_
  refine W.q rfl rfl rfl rfl (by decide) (Yd.mv rfl (.t rfl)) ?_
  refine W.e rfl rfl rfl rfl (by decide) (Ef.call (R := fun z x' => ∃ v3 : Value, z = .tuple #[v3, .int .i64 r1.2] ∧ x' = ⟨m, hownT 65 2 Label.enc v3 r1.1 :: l⟩) rfl Try.func24 rfl rfl (.cons (.t rfl) (.cons (.t rfl) (.cons (.t rfl) .nil))) (fun w hw => (flow_Raise_ok w0 _ _ fuel n_0 _ _ hlabels_1 _ _ hprog_2 _ hr2 w hw).mono fun e w' ⟨v3, he, hc'⟩ => ⟨_, _, he, ⟨v3, rfl, rfl⟩, hc'⟩)) ?_
  rintro _ _ ⟨v3, rfl, rfl⟩
  refine ⟨.inl rfl, ?_⟩
  refine W.cast (m' := m) (l' := hownT 65 2 Label.enc v3 _ :: l) rfl rfl ?_
  refine W.q rfl rfl rfl rfl (by decide) (Yd.mv rfl (.t rfl)) ?_
  refine W.q rfl rfl rfl rfl (by decide) (Yd.ext rfl (.t rfl) rfl) ?_
  refine W.q rfl rfl rfl rfl (by decide) (Yd.ext rfl (.t rfl) rfl) ?_
  refine W.q rfl rfl rfl rfl (by decide) (Yd.as rfl (.t rfl)) ?_
  refine W.q rfl rfl rfl rfl (by decide) (Yd.as rfl (.t rfl)) ?_
  refine W.end ?_
  refine NX.sub (env' := [(0, _), (1, _), (2, _), (7, _), (8, _)]) ⟨rfl, rfl, rfl, rfl, rfl, trivial⟩ ?_
  refine NX.then ?_
  refine Tr.seq ?_
  obtain ⟨r5, hr6, hr⟩ := bind_some hr
  refine Tr.region_f (fun _ => false) ?_
  refine W.q rfl rfl rfl rfl (by decide) (Yd.mv rfl (.t rfl)) ?_
  refine W.q rfl rfl rfl rfl (by decide) (Yd.mv rfl (.t rfl)) ?_
  refine W.q rfl rfl rfl rfl (by decide) (Yd.mv rfl (.t rfl)) ?_
  refine W.q rfl rfl rfl rfl (by decide) (Yd.call (v := .int .i64 r5) rfl Try.func22 rfl rfl (.cons (.t rfl) (.cons (.t rfl) (.cons (.t rfl) .nil))) (fun x' hx w hw => syllogistlaw_flowCode_ok w0 x'.m x'.l fuel n_0 _ _ (hlabels_1.mono hx.1) _ _ (hprog_2.mono hx.1) _ hr6 w hw)) ?_
  refine W.q rfl rfl rfl rfl (by decide) (Yd.as rfl (.t rfl)) ?_
  refine W.end ?_
  refine NX.sub (env' := [(1, _), (2, _), (7, _), (8, _), (9, _)]) ⟨rfl, rfl, rfl, rfl, rfl, trivial⟩ ?_
  refine NX.then ?_
  refine Tr.seq ?_
  refine Tr.seq ?_
  refine Tr.region_f (fun _ => false) ?_
  refine W.q rfl rfl rfl rfl (by decide) (Yd.mv rfl (.t rfl)) ?_
  refine W.q rfl rfl rfl rfl (by decide) (Yd.neq rfl (.t rfl) .c) ?_
  refine W.end ?_
  refine NX.sub (env' := [(1, _), (2, _), (7, _), (8, _), (9, _), (22, _)]) ⟨rfl, rfl, rfl, rfl, rfl, rfl, trivial⟩ ?_
  refine NX.then ?_
  refine Tr.cond (.t rfl) (fun hb => ?_) (fun hb => ?_)
  · have hr := cond_t hb hr
    refine Tr.seq ?_
    refine Tr.region_f (fun _ => false) ?_
    refine W.q rfl rfl rfl rfl (by decide) (Yd.mv rfl (.t rfl)) ?_
    refine W.q rfl rfl rfl rfl (by decide) (Yd.mv rfl (.t rfl)) ?_
    refine W.q rfl rfl rfl rfl (by decide) (Yd.eql rfl (.t rfl) (.t rfl)) ?_
    refine W.q rfl rfl rfl rfl (by decide) (Yd.mv rfl (.t rfl)) ?_
    refine W.g rfl rfl rfl rfl rfl (.t rfl _) rfl (by decide) (fun hG => Yd.mv rfl (.t rfl)) ?_
    refine W.g rfl rfl rfl rfl rfl (.t rfl _) rfl (by decide) (fun hG => Yd.lenO (p := 0) rfl rfl Try.underlying22 (.g rfl hG)) ?_
    refine W.g rfl rfl rfl rfl rfl (.t rfl _) rfl (by decide) (fun hG => Yd.eql rfl (.g rfl hG) .c) ?_
    refine W.q rfl rfl rfl rfl (by decide) (Yd.and rfl (.t rfl) .c rfl rfl) ?_
    refine W.q rfl rfl rfl rfl (by decide) (Yd.as rfl (.t rfl)) ?_
    refine W.end ?_
    refine NX.sub (env' := [(6, _)]) ⟨rfl, trivial⟩ ?_
    refine NX.drop (l' := l) (.cons _ (.refl _)) ?_
    refine NX.then ?_
    refine Tr.ret' (RT.then ?_)
    refine res1 rfl rfl ?_
    intro w hc
    cases hr
    exact ⟨rfl, hc⟩
  · have hr := cond_f hb hr
    refine Tr.skip' ?_
    refine NX.then ?_
    refine Tr.seq ?_
    refine Tr.region_f (fun i => Nat.beq i 6) ?_
    refine W.q rfl rfl rfl rfl (by decide) (Yd.mv rfl (.t rfl)) ?_
    refine W.q rfl rfl rfl rfl (by decide) (Yd.eql rfl (.t rfl) .c) ?_
    refine W.q rfl rfl rfl rfl (by decide) (Yd.mv rfl (.t rfl)) ?_
    refine W.g rfl rfl rfl rfl rfl (.t rfl _) rfl (by decide) (fun hG => Yd.mv rfl (.t rfl)) ?_
    refine W.g rfl rfl rfl rfl rfl (.t rfl _) rfl (by decide) (fun hG => Yd.mv rfl (.t rfl)) ?_
    refine W.g rfl rfl rfl rfl rfl (.t rfl _) rfl (by decide) (fun hG => Yd.mv rfl (.t rfl)) ?_
    refine W.split (b := ((r1.2 == (0 : Int)) == true)) (fun hb7 => ?_) (fun hb7 => ?_)
    · have hr := cond_t hb7 hr
      obtain ⟨r8, hr9, hr⟩ := bind_some hr
      obtain ⟨r13, hr14, hr⟩ := bind_some hr
      refine W.ge rfl rfl rfl rfl rfl (.t rfl _) hb7 rfl (by decide) (Ef.call (R := fun z x' => ∃ u10 : Value, ∃ m11 : Snap, z = u10 ∧ x' = ⟨m11, hownT 65 2 Label.enc v3 r1.1 :: l⟩ ∧ Sle m m11 ∧ RS rLabel m11 u10 r8) rfl Try.func25 rfl rfl (.cons (.g rfl hb7) (.cons (.g rfl hb7) .nil)) (fun w hw => (syllogistref_Raised_ok w0 _ _ fuel _ _ hprog_2 _ _ hlabels_1 _ hr9 w hw).mono fun e w' ⟨u10, m11, he, hm', hu12, hc'⟩ => ⟨_, _, he, ⟨u10, m11, rfl, rfl, hm', hu12⟩, hc'⟩)) ?_
      rintro u10 _ ⟨_, m11, rfl, rfl, hsm11, hu12⟩
      have hlabels_1 := hlabels_1.mono hsm11
      have hprog_2 := hprog_2.mono hsm11
      refine ⟨.inl rfl, ?_⟩
      refine W.cast (m' := m11) (l' := hownT 65 2 Label.enc v3 _ :: l) rfl rfl ?_
      refine W.g rfl rfl rfl rfl rfl (.t rfl _) rfl (by decide) (fun hG => Yd.call (v := .bool r13) rfl Try.func14 rfl rfl (.cons (.g rfl hb7) (.cons (.t rfl) .nil)) (by intro x' hx w hw; obtain ⟨p0, hp0⟩ := hx.at (p := 0) rfl; obtain ⟨m2, hm2, hc2, ⟨L2, hl1, hl2⟩, hback⟩ := cX_lend hw hp0 lone_own; have hL1 : RS rLabel m2 _ _ := RS_of_own hl1 hl2; exact (syllogistref_Labels_ok w0 m2 _ _ _ hL1 _ _ (hu12.mono (hx.1.trans hm2)) _ hr14 w hc2).mono fun e w' ⟨he, hc'⟩ => ⟨he, (hback m2 _ _ w' (.refl _) hp0).2 hc'⟩)) ?_
      refine W.q rfl rfl rfl rfl (by decide) (Yd.and rfl (.t rfl) .c rfl rfl) ?_
      refine W.q rfl rfl rfl rfl (by decide) (Yd.as rfl (.t rfl)) ?_
      refine W.end ?_
      refine NX.sub (env' := [(6, _)]) ⟨rfl, trivial⟩ ?_
      refine NX.drop (l' := l) (.cons _ (.refl _)) ?_
      refine NX.then ?_
      refine Tr.ret' ?_
      refine res1 rfl rfl ?_
      intro w hc
      cases hr
      exact ⟨rfl, (cX_le (x := ⟨m, _⟩) ⟨hsm11, [], rfl⟩ hc)⟩
    · have hr := cond_f hb7 hr
      refine W.gF rfl rfl rfl rfl (.t rfl _) hb7 rfl (by decide) (undef) ?_
      refine W.gF rfl rfl rfl rfl (.t rfl _) hb7 rfl (by decide) (.bool false) ?_
      refine W.q rfl rfl rfl rfl (by decide) (Yd.and rfl (.t rfl) .c rfl rfl) ?_
      refine W.q rfl rfl rfl rfl (by decide) (Yd.as rfl (.t rfl)) ?_
      refine W.end ?_
      refine NX.sub (env' := [(6, _)]) ⟨rfl, trivial⟩ ?_
      refine NX.drop (l' := l) (.cons _ (.refl _)) ?_
      refine NX.then ?_
      refine Tr.ret' ?_
      refine res1 rfl rfl ?_
      intro w hc
      cases hr
      exact ⟨rfl, hc⟩
end Go.Proofs.Ytcihfhfolofomaa.Sy
