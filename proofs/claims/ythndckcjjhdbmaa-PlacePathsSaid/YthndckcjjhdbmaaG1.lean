/- Functions of the program as plain functions, and that the translation computes them; the conditions stand in each theorem. Printed by an own program. -/
import Derived.Test.YthndckcjjhdbmaaG1a
import Derived.Test.YthndckcjjhdbmaaProg
namespace Go.Proofs.Ythndckcjjhdbmaa.Sy
open Go
set_option linter.unusedVariables false
def place_Path_k18 (fuel : Nat) (l16 : List Int) : Option ((List Int) × Int) :=
  (slices_Reverse_Sintint fuel l16).bind fun r20 =>
  some ((r20, (0 : Int)))

def place_Path_b22 (l_0 : List Leaf) (who_1 : Label) (fuel : Nat) (k_13 : Int) (l14 : List Int) (nx23 : (Int × (List Int)) → Option ((List Int) × Int)) : Option ((List Int) × Int) :=
  (bif (decide (k_13 ≥ (0 : Int))) then
  (geti l_0 k_13).bind fun y25 =>
  (place_Below l_0 (({ level := who_1.level, parts := who_1.parts } : Label)) y25.up).bind fun r27 =>
  (slices_Index_Sintint r27 k_13).bind fun r31 =>
  bif decide (l14.length + (([r31] : List Int)).length ≤ 17592186044416) then
  (geti l_0 k_13).bind fun y37 =>
  nx23 (y37.up, (l14 ++ ([r31] : List Int))) else none
  else
  place_Path_k18 fuel l14)

def place_Path (fuel : Nat) (l_0 : List Leaf) (who_1 : Label) (k_2 : Int) : Option ((List Int) × Int) :=
  (place_wrong l_0 (({ level := who_1.level, parts := who_1.parts } : Label))).bind fun r3 =>
  (bif (r3 != (0 : Int)) then
  some (([], r3))
  else
  (bif ((decide (k_2 < (0 : Int))) || (decide (k_2 ≥ (l_0.length : Int)))) then
  some (([], (5 : Int)))
  else
  (geti l_0 k_2).bind fun y5 =>
  (label_Least y5.label (({ level := who_1.level, parts := who_1.parts } : Label))).bind fun r7 =>
  (bif (!r7) then
  some (([], (7 : Int)))
  else
  whileK (σ := Int × (List Int)) (fun s nx_ => place_Path_b22 l_0 who_1 fuel s.1 s.2 nx_) fuel (k_2, (([] : List Int))))))

set_option maxRecDepth 100000 in
theorem place_Path_ok (w0 : World) (m : Snap) (l : List HI) (fuel : Nat) (ul_0 : Value) (l_0 : List Leaf) (hl_0 : RS rLeaf m ul_0 l_0) (who_1 : Label) (k_2 : Int) (r : (List Int) × Int) (hr : place_Path fuel l_0 who_1 k_2 = some r) (w : World) (hc : cX w0 ⟨m, l⟩ w) :
    Calls Try.prog 18 [ul_0, .agg #[.int .i64 who_1.level, .int .u32 (who_1.parts.toNat : Int)], .int .i64 k_2].toArray w fun e w' => ∃ z0 : Value, e = .returned (.tuple #[z0, .int .i64 r.2]) ∧ cX w0 ⟨m, hownT 3 1 encI z0 r.1 :: l⟩ w' := by
  unfold place_Path at hr
  refine calls_of_Tr (N := 58) Try.func18 rfl hc rfl (Nat.le_of_ble_eq_true rfl) ?_
  refine Tr.seq ?_
  refine Tr.region_f (fun i => Nat.beq i 0) ?_
  refine W.e rfl rfl rfl rfl (by decide) (Ef.bx rfl (.t rfl) rfl) ?_
  rintro _ _ ⟨b1, rfl, rfl⟩
  refine ⟨.inl rfl, ?_⟩
  refine W.cast (m' := m) (l' := hcells b1 [_, _] 25 :: l) rfl rfl ?_
  refine W.q rfl rfl rfl rfl (by decide) (Yd.as rfl .c) ?_
  refine W.q rfl rfl rfl rfl (by decide) (Yd.as rfl .c) ?_
  refine W.end ?_
  refine NX.sub (env' := [(0, _), (2, _), (4, _)]) ⟨rfl, rfl, rfl, trivial⟩ ?_
  refine NX.then ?_
  refine Tr.seq ?_
  refine Tr.seq ?_
  obtain ⟨r3, hr4, hr⟩ := bind_some hr
  refine Tr.region_f (fun _ => false) ?_
  refine W.q rfl rfl rfl rfl (by decide) (Yd.mv rfl (.t rfl)) ?_
  refine W.q rfl rfl rfl rfl (by decide) (Yd.ldBs (pos := 0) (us := [_, _]) rfl rfl rfl rfl ON25 US25 SZ25 (.t rfl)) ?_
  refine W.q rfl rfl rfl rfl (by decide) (Yd.call (v := .int .i64 r3) rfl Try.func36 rfl rfl (.cons (.t rfl) (.cons (.t rfl) .nil)) (fun x' hx w hw => place_wrong_ok w0 x'.m x'.l _ _ (hl_0.mono hx.1) (({ level := who_1.level, parts := who_1.parts } : Label)) _ hr4 w hw)) ?_
  refine W.q rfl rfl rfl rfl (by decide) (Yd.as rfl (.t rfl)) ?_
  refine W.end ?_
  refine NX.sub (env' := [(0, _), (2, _), (4, _), (8, _)]) ⟨rfl, rfl, rfl, rfl, trivial⟩ ?_
  refine NX.then ?_
  refine Tr.block ?_
  refine Tr.seq ?_
  refine Tr.region_f (fun _ => false) ?_
  refine W.q rfl rfl rfl rfl (by decide) (Yd.mv rfl (.t rfl)) ?_
  refine W.q rfl rfl rfl rfl (by decide) (Yd.neq rfl (.t rfl) .c) ?_
  refine W.q rfl rfl rfl rfl (by decide) (Yd.as rfl (.t rfl)) ?_
  refine W.end ?_
  refine NX.sub (env' := [(0, _), (2, _), (4, _), (8, _), (13, _)]) ⟨rfl, rfl, rfl, rfl, rfl, trivial⟩ ?_
  refine NX.then ?_
  refine Tr.cond (.t rfl) (fun hb => ?_) (fun hb => ?_)
  · have hr := cond_t hb hr
    refine Tr.seq ?_
    refine Tr.region_f (fun _ => false) ?_
    refine W.q rfl rfl rfl rfl (by decide) (Yd.mv rfl (.t rfl)) ?_
    refine W.q rfl rfl rfl rfl (by decide) (Yd.as rfl .c) ?_
    refine W.q rfl rfl rfl rfl (by decide) (Yd.as rfl (.t rfl)) ?_
    refine W.end ?_
    refine NX.sub (env' := [(6, _), (7, _)]) ⟨rfl, rfl, trivial⟩ ?_
    refine NX.drop (l' := l) (.cons _ (.refl _)) ?_
    refine NX.then ?_
    refine Tr.ret' (RT.block (RT.then ?_))
    refine res2 rfl rfl rfl ?_
    intro w hc
    cases hr
    exact ⟨_, rfl, (cX_nil hc)⟩
  · have hr := cond_f hb hr
    refine Tr.seq ?_
    refine Tr.region_f (fun _ => false) ?_
    refine W.q rfl rfl rfl rfl (by decide) (Yd.mv rfl (.t rfl)) ?_
    refine W.q rfl rfl rfl rfl (by decide) (Yd.lss rfl (.t rfl) .c) ?_
    refine W.q rfl rfl rfl rfl (by decide) (Yd.mv rfl (.t rfl)) ?_
    refine W.g rfl rfl rfl rfl rfl (.t rfl _) rfl (by decide) (fun hG => Yd.mv rfl (.t rfl)) ?_
    refine W.g rfl rfl rfl rfl rfl (.t rfl _) rfl (by decide) (fun hG => Yd.mv rfl (.t rfl)) ?_
    refine W.g rfl rfl rfl rfl rfl (.t rfl _) rfl (by decide) (fun hG => Yd.lenR hl_0 rfl Try.underlying22 (.g rfl hG)) ?_
    refine W.g rfl rfl rfl rfl rfl (.t rfl _) rfl (by decide) (fun hG => Yd.geq rfl (.g rfl hG) (.g rfl hG)) ?_
    refine W.q rfl rfl rfl rfl (by decide) (Yd.or rfl (.t rfl) .c rfl rfl) ?_
    refine W.q rfl rfl rfl rfl (by decide) (Yd.as rfl (.t rfl)) ?_
    refine W.end ?_
    refine NX.sub (env' := [(0, _), (2, _), (4, _), (17, _)]) ⟨rfl, rfl, rfl, rfl, trivial⟩ ?_
    refine NX.then ?_
    refine Tr.cond (.t rfl) (fun hb => ?_) (fun hb => ?_)
    · have hr := cond_t hb hr
      refine Tr.seq ?_
      refine Tr.region_f (fun _ => false) ?_
      refine W.q rfl rfl rfl rfl (by decide) (Yd.as rfl .c) ?_
      refine W.q rfl rfl rfl rfl (by decide) (Yd.as rfl .c) ?_
      refine W.end ?_
      refine NX.sub (env' := [(6, _), (7, _)]) ⟨rfl, rfl, trivial⟩ ?_
      refine NX.drop (l' := l) (.cons _ (.refl _)) ?_
      refine NX.then ?_
      refine Tr.ret' (RT.block (RT.then ?_))
      refine res2 rfl rfl rfl ?_
      intro w hc
      cases hr
      exact ⟨_, rfl, (cX_nil hc)⟩
    · have hr := cond_f hb hr
      refine Tr.seq ?_
      obtain ⟨y5, hy6, hr⟩ := bind_some hr
      obtain ⟨r7, hr8, hr⟩ := bind_some hr
      refine Tr.region_x (fun _ => false) (fun _ => false) (Ord.of [0, 1, 2, 3, 4, 5, 6, 7, 8]) FM (by kernel_rfl) ?_
      refine W.q rfl rfl rfl rfl (by decide) (Yd.mv rfl (.t rfl)) ?_
      refine W.q rfl rfl rfl rfl (by decide) (Yd.mv rfl (.t rfl)) ?_
      refine W.q rfl rfl rfl rfl (by decide) (Yd.idxR hl_0 hy6 rfl Try.underlying22 SZ42 (.t rfl) (.t rfl)) ?_
      refine W.q rfl rfl rfl rfl (by decide) (Yd.fldA rfl Try.underlying42 rfl SZ25 rfl (adr_head hl_0 hy6) (.t rfl)) ?_
      refine W.q rfl rfl rfl rfl (by decide) (Yd.ldFp (us := [_, _]) hl_0 (.refl _) hy6 rfl rfl rfl ON25 US25 SZ25 (.t rfl)) ?_
      refine W.q rfl rfl rfl rfl (by decide) (Yd.ldBs (pos := 0) (us := [_, _]) rfl rfl rfl rfl ON25 US25 SZ25 (.t rfl)) ?_
      refine W.q rfl rfl rfl rfl (by decide) (Yd.call (v := .bool r7) rfl Try.func33 rfl rfl (.cons (.t rfl) (.cons (.t rfl) .nil)) (fun x' hx w hw => label_Least_ok w0 x'.m x'.l y5.label (({ level := who_1.level, parts := who_1.parts } : Label)) _ hr8 w hw)) ?_
      refine W.q rfl rfl rfl rfl (by decide) (Yd.not rfl (.t rfl)) ?_
      refine W.q rfl rfl rfl rfl (by decide) (Yd.as rfl (.t rfl)) ?_
      refine W.end ?_
      refine NX.sub (env' := [(0, _), (2, _), (4, _), (26, _)]) ⟨rfl, rfl, rfl, rfl, trivial⟩ ?_
      refine NX.then ?_
      refine Tr.cond (.t rfl) (fun hb => ?_) (fun hb => ?_)
      · have hr := cond_t hb hr
        refine Tr.seq ?_
        refine Tr.region_f (fun _ => false) ?_
        refine W.q rfl rfl rfl rfl (by decide) (Yd.as rfl .c) ?_
        refine W.q rfl rfl rfl rfl (by decide) (Yd.as rfl .c) ?_
        refine W.end ?_
        refine NX.sub (env' := [(6, _), (7, _)]) ⟨rfl, rfl, trivial⟩ ?_
        refine NX.drop (l' := l) (.cons _ (.refl _)) ?_
        refine NX.then ?_
        refine Tr.ret' (RT.block (RT.then ?_))
        refine res2 rfl rfl rfl ?_
        intro w hc
        cases hr
        exact ⟨_, rfl, (cX_nil hc)⟩
      · have hr := cond_f hb hr
        refine Tr.skip' ?_
        refine NX.block ?_
        refine NX.then ?_
        refine Tr.seq ?_
        refine Tr.region_f (fun _ => false) ?_
        refine W.q rfl rfl rfl rfl (by decide) (Yd.as rfl .c) ?_
        refine W.end ?_
        refine NX.sub (env' := [(0, _), (2, _), (4, _), (9, _)]) ⟨rfl, rfl, rfl, rfl, trivial⟩ ?_
        refine NX.then ?_
        refine Tr.seq ?_
        refine Tr.addnil 3 1 ?_
        refine Tr.join (S := fun env x => ∃ l16 : List Int, ∃ v17 : Value, env = [(9, v17)] ∧ x = ⟨m, hownT 3 1 encI v17 l16 :: l⟩ ∧ place_Path_k18 fuel l16 = some r) ?_ (fun hk19 => ?_)
        · rintro _ _ ⟨l16, v17, rfl, rfl, hr⟩
          unfold place_Path_k18 at hr
          try dsimp only at hr
          refine NX.then ?_
          refine Tr.seq ?_
          obtain ⟨r20, hr21, hr⟩ := bind_some hr
          refine Tr.region_f (fun i => Nat.beq i 1) ?_
          refine W.q rfl rfl rfl rfl (by decide) (Yd.mv rfl (.t rfl)) ?_
          refine W.e rfl rfl rfl rfl (by decide) (Ef.call (R := fun z x' => z = .tuple #[] ∧ x' = ⟨m, hownT 3 1 encI v17 r20 :: l⟩) rfl Try.func40 rfl rfl (.cons (.t rfl) .nil) (fun w hw => (slices_Reverse_Sintint_ok w0 _ _ fuel _ _ _ hr21 w (cX_front (p := 0) hw rfl)).mono fun e w' ⟨he, hc'⟩ => ⟨_, _, he, ⟨rfl, rfl⟩, cX_back (p := 0) hc' rfl⟩)) ?_
          rintro _ _ ⟨rfl, rfl⟩
          refine ⟨.inl rfl, ?_⟩
          refine W.cast (m' := m) (l' := hownT 3 1 encI v17 _ :: l) rfl rfl ?_
          refine W.end ?_
          refine NX.sub (env' := [(9, _)]) ⟨rfl, trivial⟩ ?_
          refine NX.then ?_
          refine Tr.seq ?_
          refine Tr.region_f (fun _ => false) ?_
          refine W.q rfl rfl rfl rfl (by decide) (Yd.mv rfl (.t rfl)) ?_
          refine W.q rfl rfl rfl rfl (by decide) (Yd.as rfl (.t rfl)) ?_
          refine W.q rfl rfl rfl rfl (by decide) (Yd.as rfl .c) ?_
          refine W.end ?_
          refine NX.sub (env' := [(6, _), (7, _)]) ⟨rfl, rfl, trivial⟩ ?_
          refine NX.then ?_
          refine Tr.ret' ?_
          refine res2 rfl rfl rfl ?_
          intro w hc
          cases hr
          exact ⟨_, rfl, hc⟩
        refine Tr.block ?_
        refine Tr.sub (env' := [(0, _), (2, _), (4, _), (9, _)]) ⟨rfl, rfl, rfl, rfl, trivial⟩ ?_
        refine Tr.loop (S := fun n (z : Int × (List Int)) env x => match z with | (k_13, l14) => ∃ v15 : Value, env = [(0, ul_0), (2, .int .i64 k_13), (4, bp b1 0), (9, v15)] ∧ x = ⟨m, hownT 3 1 encI v15 l14 :: hcells b1 [.int .i64 who_1.level, .int .u32 (who_1.parts.toNat : Int)] 25 :: l⟩ ∧ whileK (σ := Int × (List Int)) (fun s nx_ => place_Path_b22 l_0 who_1 fuel s.1 s.2 nx_) n (k_13, l14) = some r) _ (k_2, ([] : List Int)) ⟨_, rfl, rfl, hr⟩ ?_
        rintro n24 ⟨k_13, l14⟩ env x ⟨v15, rfl, rfl, hr⟩
        cases n24 with
        | zero => simp [whileK] at hr
        | succ n24 =>
          obtain ⟨nx23, hnx23, hr⟩ := whileK_succ hr
          try dsimp only at hr
          unfold place_Path_b22 at hr
          try dsimp only at hr
          refine Tr.seq ?_
          refine Tr.seq ?_
          refine Tr.region_f (fun _ => false) ?_
          refine W.q rfl rfl rfl rfl (by decide) (Yd.mv rfl (.t rfl)) ?_
          refine W.q rfl rfl rfl rfl (by decide) (Yd.geq rfl (.t rfl) .c) ?_
          refine W.end ?_
          refine NX.sub (env' := [(0, _), (2, _), (4, _), (9, _), (36, _)]) ⟨rfl, rfl, rfl, rfl, rfl, trivial⟩ ?_
          refine NX.then ?_
          refine Tr.cond (.t rfl) (fun hb => ?_) (fun hb => ?_)
          · have hr := cond_t hb hr
            refine Tr.skip' ?_
            refine NX.then ?_
            refine Tr.seq ?_
            refine Tr.block ?_
            obtain ⟨y25, hy26, hr⟩ := bind_some hr
            obtain ⟨r27, hr28, hr⟩ := bind_some hr
            obtain ⟨r31, hr32, hr⟩ := bind_some hr
            obtain ⟨hq36, hr⟩ := guard_some hr; replace hq36 := of_decide_eq_true hq36
            refine Tr.region_x (fun i => Nat.beq i 8 || Nat.beq i 11 || Nat.beq i 12) (fun i => Nat.beq i 12) (Ord.of [0, 1, 2, 3, 4, 5, 6, 7, 9, 8, 10, 11, 12, 13]) FM (by kernel_rfl) ?_
            refine W.q rfl rfl rfl rfl (by decide) (Yd.mv rfl (.t rfl)) ?_
            refine W.q rfl rfl rfl rfl (by decide) (Yd.mv rfl (.t rfl)) ?_
            refine W.q rfl rfl rfl rfl (by decide) (Yd.ldBs (pos := 1) (us := [_, _]) rfl rfl rfl rfl ON25 US25 SZ25 (.t rfl)) ?_
            refine W.q rfl rfl rfl rfl (by decide) (Yd.mv rfl (.t rfl)) ?_
            refine W.q rfl rfl rfl rfl (by decide) (Yd.mv rfl (.t rfl)) ?_
            refine W.q rfl rfl rfl rfl (by decide) (Yd.idxR hl_0 hy26 rfl Try.underlying22 SZ42 (.t rfl) (.t rfl)) ?_
            refine W.q rfl rfl rfl rfl (by decide) (Yd.fldA rfl Try.underlying42 rfl SZ3 rfl (adr_head hl_0 hy26) (.t rfl)) ?_
            refine W.q rfl rfl rfl rfl (by decide) (Yd.ldFf hl_0 (.refl _) hy26 rfl rfl ON3 (.t rfl)) ?_
            refine W.q rfl rfl rfl rfl (by decide) (Yd.mv rfl (.t rfl)) ?_
            refine W.e rfl rfl rfl rfl (by decide) (Ef.call (R := fun z x' => ∃ v29 : Value, z = v29 ∧ x' = ⟨m, hownT 3 1 encI v29 r27 :: hownT 3 1 encI v15 l14 :: hcells b1 [.int .i64 who_1.level, .int .u32 (who_1.parts.toNat : Int)] 25 :: l⟩) rfl Try.func39 rfl rfl (.cons (.t rfl) (.cons (.t rfl) (.cons (.t rfl) .nil))) (fun w hw => (place_Below_ok w0 _ _ _ _ hl_0 (({ level := who_1.level, parts := who_1.parts } : Label)) y25.up _ hr28 w hw).mono fun e w' ⟨v29, he, hc'⟩ => ⟨_, _, he, ⟨v29, rfl, rfl⟩, hc'⟩)) ?_
            rintro v29 _ ⟨_, rfl, rfl⟩
            refine ⟨.inr ⟨.refl _, [_], rfl⟩, ?_⟩
            refine W.cast (m' := m) (l' := hownT 3 1 encI v29 _ :: hownT 3 1 encI v15 _ :: hcells b1 [_, _] 25 :: l) rfl rfl ?_
            refine W.q rfl rfl rfl rfl (by decide) (Yd.call (v := .int .i64 r31) rfl Try.func38 rfl rfl (.cons (.t rfl) (.cons (.t rfl) .nil)) (by intro x' hx w hw; obtain ⟨p0, hp0⟩ := hx.at (p := 0) rfl; obtain ⟨m2, hm2, hc2, ⟨L2, hl1, hl2⟩, hback⟩ := cX_lend hw hp0 lone_own; have hL1 : RS rI m2 _ _ := RS_of_own hl1 hl2; exact (slices_Index_Sintint_ok w0 m2 _ _ _ hL1 k_13 _ hr32 w hc2).mono fun e w' ⟨he, hc'⟩ => ⟨he, (hback m2 _ _ w' (.refl _) hp0).2 hc'⟩)) ?_
            refine W.e rfl rfl rfl rfl (by decide) (Ef.bsT (enc := encI) (vs := [_]) (ys := [r31]) (fun _ => rfl) IF3 rfl Try.underlying33 (by decide) rfl (.cons (.t rfl) .nil) rfl rfl (by decide)) ?_
            rintro v33 _ rfl
            refine ⟨.inr ⟨.refl _, [_], rfl⟩, ?_⟩
            refine W.cast (m' := m) (l' := hownT 3 1 encI v33 _ :: hownT 3 1 encI v29 _ :: hownT 3 1 encI v15 _ :: hcells b1 [_, _] 25 :: l) rfl rfl ?_
            refine W.e rfl rfl rfl rfl (by decide) (Ef.apI (pos := 2) (enc := encI) (xs := l14) (ys := ([r31] : List Int)) (fun _ => rfl) IF3 rfl rfl Try.underlying33 rfl (by decide) (.t rfl) (.t rfl) (Src.own (pos := 0) rfl) (fun _ => rfl) (by omega) (by omega)) ?_
            rintro v35 _ rfl
            refine ⟨.inl rfl, ?_⟩
            refine W.cast (m' := m) (l' := hownT 3 1 encI v33 _ :: hownT 3 1 encI v29 _ :: hownT 3 1 encI v35 _ :: hcells b1 [_, _] 25 :: l) rfl rfl ?_
            refine W.q rfl rfl rfl rfl (by decide) (Yd.as rfl (.t rfl)) ?_
            refine W.end ?_
            refine NX.sub (env' := [(0, _), (2, _), (4, _), (9, _)]) ⟨rfl, rfl, rfl, rfl, trivial⟩ ?_
            refine NX.drop (l' := hownT 3 1 encI v35 _ :: hcells b1 [_, _] 25 :: l) (.cons _ (.cons _ (.cons_cons _ (.cons_cons _ (.refl _))))) ?_
            refine NX.block ?_
            refine NX.then ?_
            obtain ⟨y37, hy38, hr⟩ := bind_some hr
            refine Tr.region_f (fun _ => false) ?_
            refine W.q rfl rfl rfl rfl (by decide) (Yd.mv rfl (.t rfl)) ?_
            refine W.q rfl rfl rfl rfl (by decide) (Yd.mv rfl (.t rfl)) ?_
            refine W.q rfl rfl rfl rfl (by decide) (Yd.idxR hl_0 hy38 rfl Try.underlying22 SZ42 (.t rfl) (.t rfl)) ?_
            refine W.q rfl rfl rfl rfl (by decide) (Yd.fldA rfl Try.underlying42 rfl SZ3 rfl (adr_head hl_0 hy38) (.t rfl)) ?_
            refine W.q rfl rfl rfl rfl (by decide) (Yd.ldFf hl_0 (.refl _) hy38 rfl rfl ON3 (.t rfl)) ?_
            refine W.q rfl rfl rfl rfl (by decide) (Yd.as rfl (.t rfl)) ?_
            refine W.end ?_
            refine NX.sub (env' := [(0, _), (2, _), (4, _), (9, _)]) ⟨rfl, rfl, rfl, rfl, trivial⟩ ?_
            refine NX.sub (env' := [(0, _), (2, _), (4, _), (9, _)]) ⟨rfl, rfl, rfl, rfl, trivial⟩ ?_
            exact NX.again n24 (y37.up, (l14 ++ ([r31] : List Int))) (Nat.lt_succ_self _) ⟨_, rfl, rfl, ((hnx23 _).symm.trans hr)⟩
          · have hr := cond_f hb hr
            refine Tr.exit' (EX.then (EX.then (EX.block ?_)))
            refine NX.sub (env' := [(9, _)]) ⟨rfl, trivial⟩ ?_
            refine NX.drop (l' := hownT 3 1 encI v15 _ :: l) (.cons_cons _ (.cons _ (.refl _))) ?_
            exact hk19 _ _ ⟨_, _, rfl, rfl, hr⟩

def syllogistlaw_PlacePaths_k15 (l_0 : List Leaf) (who_1 : Label) (k_2 : Int) (fuel : Nat) (r3 : (List Int) × Int) (x_14 : Int) : Option (Bool) :=
  (bif (x_14 != (0 : Int)) then
  some (((r3.2 == x_14) && ((r3.1.length : Int) == (0 : Int))))
  else
  (bif ((r3.2 == (0 : Int)) == true) then
  (syllogistref_PathOf fuel l_0 (({ level := who_1.level, parts := who_1.parts } : Label)) k_2).bind fun r18 =>
  (syllogistref_Ints r3.1 r18).bind fun r22 =>
  some (((r3.2 == (0 : Int)) && r22))
  else
  some (((r3.2 == (0 : Int)) && false))))

def syllogistlaw_PlacePaths_k10 (l_0 : List Leaf) (who_1 : Label) (k_2 : Int) (fuel : Nat) (r3 : (List Int) × Int) (x_9 : Int) : Option (Bool) :=
  bif (!((x_9 == (0 : Int)) == true) || (geti l_0 k_2).isSome) then
  bif (!((x_9 == (0 : Int)) == true) || (syllogistref_Below ((((geti l_0 k_2).getD ({ up := (0 : Int), text := (0 : Int), label := ({ level := (0 : Int), parts := (0#32) } : Label) } : Leaf))).label) (({ level := who_1.level, parts := who_1.parts } : Label))).isSome) then
  (bif ((x_9 == (0 : Int)) && (!(((syllogistref_Below ((((geti l_0 k_2).getD ({ up := (0 : Int), text := (0 : Int), label := ({ level := (0 : Int), parts := (0#32) } : Label) } : Leaf))).label) (({ level := who_1.level, parts := who_1.parts } : Label))).getD false)))) then
  syllogistlaw_PlacePaths_k15 l_0 who_1 k_2 fuel r3 ((7 : Int))
  else
  syllogistlaw_PlacePaths_k15 l_0 who_1 k_2 fuel r3 x_9) else none else none

def syllogistlaw_PlacePaths (fuel : Nat) (l_0 : List Leaf) (who_1 : Label) (k_2 : Int) : Option (Bool) :=
  (place_Path fuel l_0 (({ level := who_1.level, parts := who_1.parts } : Label)) k_2).bind fun r3 =>
  (syllogistlaw_pageCode l_0 (({ level := who_1.level, parts := who_1.parts } : Label))).bind fun r7 =>
  (bif ((r7 == (0 : Int)) && ((decide (k_2 < (0 : Int))) || (decide (k_2 ≥ (l_0.length : Int))))) then
  syllogistlaw_PlacePaths_k10 l_0 who_1 k_2 fuel r3 ((5 : Int))
  else
  syllogistlaw_PlacePaths_k10 l_0 who_1 k_2 fuel r3 r7)

set_option maxRecDepth 100000 in
theorem syllogistlaw_PlacePaths_ok (w0 : World) (m : Snap) (l : List HI) (fuel : Nat) (ul_0 : Value) (l_0 : List Leaf) (hl_0 : RS rLeaf m ul_0 l_0) (who_1 : Label) (k_2 : Int) (r : Bool) (hr : syllogistlaw_PlacePaths fuel l_0 who_1 k_2 = some r) (w : World) (hc : cX w0 ⟨m, l⟩ w) :
    Calls Try.prog 5 [ul_0, .agg #[.int .i64 who_1.level, .int .u32 (who_1.parts.toNat : Int)], .int .i64 k_2].toArray w fun e w' => e = .returned (.bool r) ∧ cX w0 ⟨m, l⟩ w' := by
  unfold syllogistlaw_PlacePaths at hr
  refine calls_of_Tr (N := 64) Try.func5 rfl hc rfl (Nat.le_of_ble_eq_true rfl) ?_
  refine Tr.seq ?_
  refine Tr.region_f (fun i => Nat.beq i 0) ?_
  refine W.e rfl rfl rfl rfl (by decide) (Ef.bx rfl (.t rfl) rfl) ?_
  rintro _ _ ⟨b1, rfl, rfl⟩
  refine ⟨.inl rfl, ?_⟩
  refine W.cast (m' := m) (l' := hcells b1 [_, _] 25 :: l) rfl rfl ?_
  refine W.q rfl rfl rfl rfl (by decide) (Yd.as rfl .c) ?_
  refine W.end ?_
  refine NX.sub (env' := [(0, _), (2, _), (4, _)]) ⟨rfl, rfl, rfl, trivial⟩ ?_
  refine NX.then ?_
  refine Tr.seq ?_
  obtain ⟨r3, hr4, hr⟩ := bind_some hr
  refine Tr.region_f (fun i => Nat.beq i 3) ?_
  refine W.q rfl rfl rfl rfl (by decide) (Yd.mv rfl (.t rfl)) ?_
  refine W.q rfl rfl rfl rfl (by decide) (Yd.ldBs (pos := 0) (us := [_, _]) rfl rfl rfl rfl ON25 US25 SZ25 (.t rfl)) ?_
  refine W.q rfl rfl rfl rfl (by decide) (Yd.mv rfl (.t rfl)) ?_
  refine W.e rfl rfl rfl rfl (by decide) (Ef.call (R := fun z x' => ∃ v5 : Value, z = .tuple #[v5, .int .i64 r3.2] ∧ x' = ⟨m, hownT 3 1 encI v5 r3.1 :: hcells b1 [.int .i64 who_1.level, .int .u32 (who_1.parts.toNat : Int)] 25 :: l⟩) rfl Try.func18 rfl rfl (.cons (.t rfl) (.cons (.t rfl) (.cons (.t rfl) .nil))) (fun w hw => (place_Path_ok w0 _ _ fuel _ _ hl_0 (({ level := who_1.level, parts := who_1.parts } : Label)) k_2 _ hr4 w hw).mono fun e w' ⟨v5, he, hc'⟩ => ⟨_, _, he, ⟨v5, rfl, rfl⟩, hc'⟩)) ?_
  rintro _ _ ⟨v5, rfl, rfl⟩
  refine ⟨.inl rfl, ?_⟩
  refine W.cast (m' := m) (l' := hownT 3 1 encI v5 _ :: hcells b1 [_, _] 25 :: l) rfl rfl ?_
  refine W.q rfl rfl rfl rfl (by decide) (Yd.mv rfl (.t rfl)) ?_
  refine W.q rfl rfl rfl rfl (by decide) (Yd.ext rfl (.t rfl) rfl) ?_
  refine W.q rfl rfl rfl rfl (by decide) (Yd.ext rfl (.t rfl) rfl) ?_
  refine W.q rfl rfl rfl rfl (by decide) (Yd.as rfl (.t rfl)) ?_
  refine W.q rfl rfl rfl rfl (by decide) (Yd.as rfl (.t rfl)) ?_
  refine W.end ?_
  refine NX.sub (env' := [(0, _), (2, _), (4, _), (7, _), (8, _)]) ⟨rfl, rfl, rfl, rfl, rfl, trivial⟩ ?_
  refine NX.then ?_
  refine Tr.seq ?_
  obtain ⟨r7, hr8, hr⟩ := bind_some hr
  refine Tr.region_f (fun _ => false) ?_
  refine W.q rfl rfl rfl rfl (by decide) (Yd.mv rfl (.t rfl)) ?_
  refine W.q rfl rfl rfl rfl (by decide) (Yd.ldBs (pos := 1) (us := [_, _]) rfl rfl rfl rfl ON25 US25 SZ25 (.t rfl)) ?_
  refine W.q rfl rfl rfl rfl (by decide) (Yd.call (v := .int .i64 r7) rfl Try.func13 rfl rfl (.cons (.t rfl) (.cons (.t rfl) .nil)) (fun x' hx w hw => syllogistlaw_pageCode_ok w0 x'.m x'.l _ _ (hl_0.mono hx.1) (({ level := who_1.level, parts := who_1.parts } : Label)) _ hr8 w hw)) ?_
  refine W.q rfl rfl rfl rfl (by decide) (Yd.as rfl (.t rfl)) ?_
  refine W.end ?_
  refine NX.sub (env' := [(0, _), (2, _), (4, _), (7, _), (8, _), (9, _)]) ⟨rfl, rfl, rfl, rfl, rfl, rfl, trivial⟩ ?_
  refine NX.then ?_
  refine Tr.seq ?_
  refine Tr.seq ?_
  refine Tr.region_f (fun _ => false) ?_
  refine W.q rfl rfl rfl rfl (by decide) (Yd.mv rfl (.t rfl)) ?_
  refine W.q rfl rfl rfl rfl (by decide) (Yd.eql rfl (.t rfl) .c) ?_
  refine W.q rfl rfl rfl rfl (by decide) (Yd.mv rfl (.t rfl)) ?_
  refine W.g rfl rfl rfl rfl rfl (.t rfl _) rfl (by decide) (fun hG => Yd.mv rfl (.t rfl)) ?_
  refine W.g rfl rfl rfl rfl rfl (.t rfl _) rfl (by decide) (fun hG => Yd.lss rfl (.g rfl hG) .c) ?_
  refine W.g rfl rfl rfl rfl rfl (.t rfl _) rfl (by decide) (fun hG => Yd.mv rfl (.g rfl hG)) ?_
  refine W.g rfl rfl rfl rfl rfl (.g rfl _) rfl (by decide) (fun hG => Yd.mv rfl (.t rfl)) ?_
  refine W.g rfl rfl rfl rfl rfl (.g rfl _) rfl (by decide) (fun hG => Yd.mv rfl (.t rfl)) ?_
  refine W.g rfl rfl rfl rfl rfl (.g rfl _) rfl (by decide) (fun hG => Yd.lenR hl_0 rfl Try.underlying22 (.g rfl hG)) ?_
  refine W.g rfl rfl rfl rfl rfl (.g rfl _) rfl (by decide) (fun hG => Yd.geq rfl (.g rfl hG) (.g rfl hG)) ?_
  refine W.g rfl rfl rfl rfl rfl (.t rfl _) rfl (by decide) (fun hG => Yd.orG rfl (.g rfl hG) .c rfl rfl hG) ?_
  refine W.q rfl rfl rfl rfl (by decide) (Yd.and rfl (.t rfl) .c rfl rfl) ?_
  refine W.end ?_
  refine NX.sub (env' := [(0, _), (2, _), (4, _), (7, _), (8, _), (9, _), (31, _)]) ⟨rfl, rfl, rfl, rfl, rfl, rfl, rfl, trivial⟩ ?_
  refine NX.then ?_
  refine Tr.join (S := fun env x => ∃ x_9 : Int, env = [(0, ul_0), (2, .int .i64 k_2), (4, bp b1 0), (7, v5), (8, .int .i64 r3.2), (9, .int .i64 x_9)] ∧ x = ⟨m, hownT 3 1 encI v5 r3.1 :: hcells b1 [.int .i64 who_1.level, .int .u32 (who_1.parts.toNat : Int)] 25 :: l⟩ ∧ syllogistlaw_PlacePaths_k10 l_0 who_1 k_2 fuel r3 x_9 = some r) ?_ (fun hk11 => ?_)
  · rintro _ _ ⟨x_9, rfl, rfl, hr⟩
    unfold syllogistlaw_PlacePaths_k10 at hr
    try dsimp only at hr
    refine NX.then ?_
    refine Tr.seq ?_
    refine Tr.seq ?_
    obtain ⟨ha12, hr⟩ := guard_some hr
    obtain ⟨ha13, hr⟩ := guard_some hr
    refine Tr.region_x (fun _ => false) (fun _ => false) (Ord.of [0, 1, 2, 3, 4, 5, 6, 7, 8, 9, 10, 11]) FM (by kernel_rfl) ?_
    refine W.q rfl rfl rfl rfl (by decide) (Yd.mv rfl (.t rfl)) ?_
    refine W.q rfl rfl rfl rfl (by decide) (Yd.eql rfl (.t rfl) .c) ?_
    refine W.q rfl rfl rfl rfl (by decide) (Yd.mv rfl (.t rfl)) ?_
    refine W.g rfl rfl rfl rfl rfl (.t rfl _) rfl (by decide) (fun hG => Yd.mv rfl (.t rfl)) ?_
    refine W.g rfl rfl rfl rfl rfl (.t rfl _) rfl (by decide) (fun hG => Yd.mv rfl (.t rfl)) ?_
    refine W.g rfl rfl rfl rfl rfl (.t rfl _) rfl (by decide) (fun hG => Yd.idxR hl_0 (gd_get (d := ({ up := (0 : Int), text := (0 : Int), label := ({ level := (0 : Int), parts := (0#32) } : Label) } : Leaf)) ha12 hG) rfl Try.underlying22 SZ42 (.g rfl hG) (.g rfl hG)) ?_
    refine W.g rfl rfl rfl rfl rfl (.t rfl _) rfl (by decide) (fun hG => Yd.fldA rfl Try.underlying42 rfl SZ25 rfl (adr_head hl_0 (gd_get (d := ({ up := (0 : Int), text := (0 : Int), label := ({ level := (0 : Int), parts := (0#32) } : Label) } : Leaf)) ha12 hG)) (.g rfl hG)) ?_
    refine W.g rfl rfl rfl rfl rfl (.t rfl _) rfl (by decide) (fun hG => Yd.ldFp (us := [_, _]) hl_0 (.refl _) (gd_get (d := ({ up := (0 : Int), text := (0 : Int), label := ({ level := (0 : Int), parts := (0#32) } : Label) } : Leaf)) ha12 hG) rfl rfl rfl ON25 US25 SZ25 (.g rfl hG)) ?_
    refine W.g rfl rfl rfl rfl rfl (.t rfl _) rfl (by decide) (fun hG => Yd.ldBs (pos := 1) (us := [_, _]) rfl rfl rfl rfl ON25 US25 SZ25 (.t rfl)) ?_
    refine W.g rfl rfl rfl rfl rfl (.t rfl _) rfl (by decide) (fun hG => Yd.call (v := .bool ((((syllogistref_Below ((((geti l_0 k_2).getD ({ up := (0 : Int), text := (0 : Int), label := ({ level := (0 : Int), parts := (0#32) } : Label) } : Leaf))).label) (({ level := who_1.level, parts := who_1.parts } : Label))).getD false)))) rfl Try.func19 rfl rfl (.cons (.g rfl hG) (.cons (.g rfl hG) .nil)) (fun x' hx w hw => syllogistref_Below_ok w0 x'.m x'.l ((((geti l_0 k_2).getD ({ up := (0 : Int), text := (0 : Int), label := ({ level := (0 : Int), parts := (0#32) } : Label) } : Leaf))).label) (({ level := who_1.level, parts := who_1.parts } : Label)) _ (gd_get (d := false) ha13 hG) w hw)) ?_
    refine W.g rfl rfl rfl rfl rfl (.t rfl _) rfl (by decide) (fun hG => Yd.not rfl (.g rfl hG)) ?_
    refine W.q rfl rfl rfl rfl (by decide) (Yd.and rfl (.t rfl) .c rfl rfl) ?_
    refine W.end ?_
    refine NX.sub (env' := [(0, _), (2, _), (4, _), (7, _), (8, _), (9, _), (43, _)]) ⟨rfl, rfl, rfl, rfl, rfl, rfl, rfl, trivial⟩ ?_
    refine NX.then ?_
    refine Tr.join (S := fun env x => ∃ x_14 : Int, env = [(0, ul_0), (2, .int .i64 k_2), (4, bp b1 0), (7, v5), (8, .int .i64 r3.2), (9, .int .i64 x_14)] ∧ x = ⟨m, hownT 3 1 encI v5 r3.1 :: hcells b1 [.int .i64 who_1.level, .int .u32 (who_1.parts.toNat : Int)] 25 :: l⟩ ∧ syllogistlaw_PlacePaths_k15 l_0 who_1 k_2 fuel r3 x_14 = some r) ?_ (fun hk16 => ?_)
    · rintro _ _ ⟨x_14, rfl, rfl, hr⟩
      unfold syllogistlaw_PlacePaths_k15 at hr
      try dsimp only at hr
      refine NX.then ?_
      refine Tr.seq ?_
      refine Tr.seq ?_
      refine Tr.region_f (fun _ => false) ?_
      refine W.q rfl rfl rfl rfl (by decide) (Yd.mv rfl (.t rfl)) ?_
      refine W.q rfl rfl rfl rfl (by decide) (Yd.neq rfl (.t rfl) .c) ?_
      refine W.end ?_
      refine NX.sub (env' := [(0, _), (2, _), (4, _), (7, _), (8, _), (9, _), (45, _)]) ⟨rfl, rfl, rfl, rfl, rfl, rfl, rfl, trivial⟩ ?_
      refine NX.then ?_
      refine Tr.cond (.t rfl) (fun hb => ?_) (fun hb => ?_)
      · have hr := cond_t hb hr
        refine Tr.seq ?_
        refine Tr.region_f (fun _ => false) ?_
        refine W.q rfl rfl rfl rfl (by decide) (Yd.mv rfl (.t rfl)) ?_
        refine W.q rfl rfl rfl rfl (by decide) (Yd.mv rfl (.t rfl)) ?_
        refine W.q rfl rfl rfl rfl (by decide) (Yd.eql rfl (.t rfl) (.t rfl)) ?_
        refine W.q rfl rfl rfl rfl (by decide) (Yd.mv rfl (.t rfl)) ?_
        refine W.g rfl rfl rfl rfl rfl (.t rfl _) rfl (by decide) (fun hG => Yd.mv rfl (.t rfl)) ?_
        refine W.g rfl rfl rfl rfl rfl (.t rfl _) rfl (by decide) (fun hG => Yd.lenO (p := 0) rfl rfl Try.underlying33 (.g rfl hG)) ?_
        refine W.g rfl rfl rfl rfl rfl (.t rfl _) rfl (by decide) (fun hG => Yd.eql rfl (.g rfl hG) .c) ?_
        refine W.q rfl rfl rfl rfl (by decide) (Yd.and rfl (.t rfl) .c rfl rfl) ?_
        refine W.q rfl rfl rfl rfl (by decide) (Yd.as rfl (.t rfl)) ?_
        refine W.end ?_
        refine NX.sub (env' := [(6, _)]) ⟨rfl, trivial⟩ ?_
        refine NX.drop (l' := l) (.cons _ (.cons _ (.refl _))) ?_
        refine NX.then ?_
        refine Tr.ret' (RT.then ?_)
        refine res1 rfl rfl ?_
        intro w hc
        cases hr
        exact ⟨rfl, hc⟩
      · have hr := cond_f hb hr
        refine Tr.skip' ?_
        refine NX.then ?_
        refine Tr.seq ?_
        refine Tr.region_f (fun i => Nat.beq i 7) ?_
        refine W.q rfl rfl rfl rfl (by decide) (Yd.mv rfl (.t rfl)) ?_
        refine W.q rfl rfl rfl rfl (by decide) (Yd.eql rfl (.t rfl) .c) ?_
        refine W.q rfl rfl rfl rfl (by decide) (Yd.mv rfl (.t rfl)) ?_
        refine W.g rfl rfl rfl rfl rfl (.t rfl _) rfl (by decide) (fun hG => Yd.mv rfl (.t rfl)) ?_
        refine W.g rfl rfl rfl rfl rfl (.t rfl _) rfl (by decide) (fun hG => Yd.mv rfl (.t rfl)) ?_
        refine W.g rfl rfl rfl rfl rfl (.t rfl _) rfl (by decide) (fun hG => Yd.ldBs (pos := 1) (us := [_, _]) rfl rfl rfl rfl ON25 US25 SZ25 (.t rfl)) ?_
        refine W.g rfl rfl rfl rfl rfl (.t rfl _) rfl (by decide) (fun hG => Yd.mv rfl (.t rfl)) ?_
        refine W.split (b := ((r3.2 == (0 : Int)) == true)) (fun hb17 => ?_) (fun hb17 => ?_)
        · have hr := cond_t hb17 hr
          obtain ⟨r18, hr19, hr⟩ := bind_some hr
          obtain ⟨r22, hr23, hr⟩ := bind_some hr
          refine W.ge rfl rfl rfl rfl rfl (.t rfl _) hb17 rfl (by decide) (Ef.call (R := fun z x' => ∃ v20 : Value, z = v20 ∧ x' = ⟨m, hownT 3 1 encI v20 r18 :: hownT 3 1 encI v5 r3.1 :: hcells b1 [.int .i64 who_1.level, .int .u32 (who_1.parts.toNat : Int)] 25 :: l⟩) rfl Try.func21 rfl rfl (.cons (.g rfl hb17) (.cons (.g rfl hb17) (.cons (.g rfl hb17) .nil))) (fun w hw => (syllogistref_PathOf_ok w0 _ _ fuel _ _ hl_0 (({ level := who_1.level, parts := who_1.parts } : Label)) k_2 _ hr19 w hw).mono fun e w' ⟨v20, he, hc'⟩ => ⟨_, _, he, ⟨v20, rfl, rfl⟩, hc'⟩)) ?_
          rintro v20 _ ⟨_, rfl, rfl⟩
          refine ⟨.inl rfl, ?_⟩
          refine W.cast (m' := m) (l' := hownT 3 1 encI v20 _ :: hownT 3 1 encI v5 _ :: hcells b1 [_, _] 25 :: l) rfl rfl ?_
          refine W.g rfl rfl rfl rfl rfl (.t rfl _) rfl (by decide) (fun hG => Yd.call (v := .bool r22) rfl Try.func20 rfl rfl (.cons (.g rfl hb17) (.cons (.t rfl) .nil)) (by intro x' hx w hw; obtain ⟨p0, p1, hp0, hp1⟩ := hx.at2 (a := 1) (b := 0) rfl rfl rfl; obtain ⟨m1, hm1, hc1, ⟨L1, hl0a, hl0b'⟩, hback1⟩ := cX_lend hw hp0 lone_own; obtain ⟨m2, hm2', hc2, ⟨L2, hl1a, hl1b⟩, hback2⟩ := cX_lend hc1 hp1 lone_own; have hm2 := hm1.trans hm2'; have hl0b : ∀ q ∈ L1, m2 q.1 = some q.2 := fun q hq => hm2' _ _ (hl0b' q hq); have hL1 : RS rI m2 _ _ := RS_of_own hl0a hl0b; have hL2 : RS rI m2 _ _ := RS_of_own hl1a hl1b; exact (syllogistref_Ints_ok w0 m2 _ _ _ hL1 _ _ hL2 _ hr23 w hc2).mono fun e w' ⟨he, hc'⟩ => ⟨he, (hback1 m1 _ _ w' (.refl _) hp0).2 ((hback2 m2 _ _ w' (.refl _) hp1).2 hc')⟩)) ?_
          refine W.q rfl rfl rfl rfl (by decide) (Yd.and rfl (.t rfl) .c rfl rfl) ?_
          refine W.q rfl rfl rfl rfl (by decide) (Yd.as rfl (.t rfl)) ?_
          refine W.end ?_
          refine NX.sub (env' := [(6, _)]) ⟨rfl, trivial⟩ ?_
          refine NX.drop (l' := l) (.cons _ (.cons _ (.cons _ (.refl _)))) ?_
          refine NX.then ?_
          refine Tr.ret' ?_
          refine res1 rfl rfl ?_
          intro w hc
          cases hr
          exact ⟨rfl, hc⟩
        · have hr := cond_f hb17 hr
          refine W.gF rfl rfl rfl rfl (.t rfl _) hb17 rfl (by decide) (undef) ?_
          refine W.gF rfl rfl rfl rfl (.t rfl _) hb17 rfl (by decide) (.bool false) ?_
          refine W.q rfl rfl rfl rfl (by decide) (Yd.and rfl (.t rfl) .c rfl rfl) ?_
          refine W.q rfl rfl rfl rfl (by decide) (Yd.as rfl (.t rfl)) ?_
          refine W.end ?_
          refine NX.sub (env' := [(6, _)]) ⟨rfl, trivial⟩ ?_
          refine NX.drop (l' := l) (.cons _ (.cons _ (.refl _))) ?_
          refine NX.then ?_
          refine Tr.ret' ?_
          refine res1 rfl rfl ?_
          intro w hc
          cases hr
          exact ⟨rfl, hc⟩
    refine Tr.cond (.t rfl) (fun hb => ?_) (fun hb => ?_)
    · have hr := cond_t hb hr
      refine Tr.region_f (fun _ => false) ?_
      refine W.q rfl rfl rfl rfl (by decide) (Yd.as rfl .c) ?_
      refine W.end ?_
      refine NX.sub (env' := [(0, _), (2, _), (4, _), (7, _), (8, _), (9, _)]) ⟨rfl, rfl, rfl, rfl, rfl, rfl, trivial⟩ ?_
      refine NX.sub (env' := [(0, _), (2, _), (4, _), (7, _), (8, _), (9, _)]) ⟨rfl, rfl, rfl, rfl, rfl, rfl, trivial⟩ ?_
      exact hk16 _ _ ⟨_, rfl, rfl, hr⟩
    · have hr := cond_f hb hr
      refine Tr.skip' ?_
      refine NX.sub (env' := [(0, _), (2, _), (4, _), (7, _), (8, _), (9, _)]) ⟨rfl, rfl, rfl, rfl, rfl, rfl, trivial⟩ ?_
      exact hk16 _ _ ⟨_, rfl, rfl, hr⟩
  refine Tr.cond (.t rfl) (fun hb => ?_) (fun hb => ?_)
  · have hr := cond_t hb hr
    refine Tr.region_f (fun _ => false) ?_
    refine W.q rfl rfl rfl rfl (by decide) (Yd.as rfl .c) ?_
    refine W.end ?_
    refine NX.sub (env' := [(0, _), (2, _), (4, _), (7, _), (8, _), (9, _)]) ⟨rfl, rfl, rfl, rfl, rfl, rfl, trivial⟩ ?_
    refine NX.sub (env' := [(0, _), (2, _), (4, _), (7, _), (8, _), (9, _)]) ⟨rfl, rfl, rfl, rfl, rfl, rfl, trivial⟩ ?_
    exact hk11 _ _ ⟨_, rfl, rfl, hr⟩
  · have hr := cond_f hb hr
    refine Tr.skip' ?_
    refine NX.sub (env' := [(0, _), (2, _), (4, _), (7, _), (8, _), (9, _)]) ⟨rfl, rfl, rfl, rfl, rfl, rfl, trivial⟩ ?_
    exact hk11 _ _ ⟨_, rfl, rfl, hr⟩
end Go.Proofs.Ythndckcjjhdbmaa.Sy
