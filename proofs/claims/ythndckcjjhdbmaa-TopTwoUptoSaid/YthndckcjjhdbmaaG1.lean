/- Functions of the program as plain functions, and that the translation computes them; the conditions stand in each theorem. Printed by an own program. -/
import Derived.Test.YthndckcjjhdbmaaG1b
import Derived.Test.YthndckcjjhdbmaaProg
namespace Go.Proofs.Ythndckcjjhdbmaa.Sy
open Go
set_option linter.unusedVariables false
def syllogistref_Strokes_k39 (l_33 : List Leaf) (l36 : List Int) : Option ((List Int) × (List Leaf)) :=
  some ((l36, l_33))

def syllogistref_Strokes_b45 (script_0 : List Stroke) (fuel : Nat) (t_44 : Int) (l_26 : List Leaf) (l30 : List Int) (nx46 : ((List Leaf) × (List Int)) → Option ((List Int) × (List Leaf))) : Option ((List Int) × (List Leaf)) :=
  (geti script_0 t_44).bind fun y49 =>
  (syllogistref_LabelCheck (({ level := y49.who.level, parts := y49.who.parts } : Label))).bind fun r56 =>
  (bif (r56 == (0 : Int)) then
  (syllogistref_Stroke fuel l_26 (({ kind := y49.kind, who := ({ level := y49.who.level, parts := y49.who.parts } : Label), path := y49.path, text := y49.text } : Stroke))).bind fun r58 =>
  (bif (r58.2 == (0 : Int)) then
  bif decide (l30.length + (([r58.2] : List Int)).length ≤ 17592186044416) then
  nx46 (r58.1, (l30 ++ ([r58.2] : List Int))) else none
  else
  bif decide (l30.length + (([r58.2] : List Int)).length ≤ 17592186044416) then
  nx46 (l_26, (l30 ++ ([r58.2] : List Int))) else none)
  else
  bif decide (l30.length + (([r56] : List Int)).length ≤ 17592186044416) then
  nx46 (l_26, (l30 ++ ([r56] : List Int))) else none)

def syllogistref_Strokes (fuel : Nat) (script_0 : List Stroke) : Option ((List Int) × (List Leaf)) :=
  forK (σ := (List Leaf) × (List Int)) (fun i s nx_ => syllogistref_Strokes_b45 script_0 fuel i s.1 s.2 nx_) (fun s => syllogistref_Strokes_k39 s.1 s.2) ((script_0.length : Int) - (0 : Int)).toNat (0 : Int) ((([] : List Leaf)), (([] : List Int)))

set_option maxRecDepth 100000 in
set_option maxHeartbeats 4000000 in
theorem syllogistref_Strokes_ok (w0 : World) (m : Snap) (l : List HI) (fuel : Nat) (uscript_0 : Value) (script_0 : List Stroke) (hscript_0 : RS rStroke m uscript_0 script_0) (r : (List Int) × (List Leaf)) (hr : syllogistref_Strokes fuel script_0 = some r) (w : World) (hc : cX w0 ⟨m, l⟩ w) :
    Calls Try.prog 25 [uscript_0].toArray w fun e w' => ∃ z0 : Value, ∃ z1 : Value, ∃ m1 : Snap, e = .returned (.tuple #[z0, z1]) ∧ Sle m m1 ∧ RS rI m1 z0 r.1 ∧ RS rLeaf m1 z1 r.2 ∧ cX w0 ⟨m1, l⟩ w' := by
  unfold syllogistref_Strokes at hr
  refine calls_of_Tr (N := 39) Try.func25 rfl hc rfl (Nat.le_of_ble_eq_true rfl) ?_
  refine Tr.seq ?_
  refine Tr.region_f (fun _ => false) ?_
  refine W.q rfl rfl rfl rfl (by decide) (Yd.as rfl .c) ?_
  refine W.q rfl rfl rfl rfl (by decide) (Yd.as rfl .c) ?_
  refine W.end ?_
  refine NX.sub (env' := [(0, _)]) ⟨rfl, trivial⟩ ?_
  refine NX.then ?_
  refine Tr.seq ?_
  refine Tr.region_f (fun _ => false) ?_
  refine W.q rfl rfl rfl rfl (by decide) (Yd.as rfl .c) ?_
  refine W.end ?_
  refine NX.sub (env' := [(0, _), (4, _)]) ⟨rfl, rfl, trivial⟩ ?_
  refine NX.then ?_
  refine Tr.seq ?_
  refine Tr.region_f (fun _ => false) ?_
  refine W.q rfl rfl rfl rfl (by decide) (Yd.as rfl .c) ?_
  refine W.end ?_
  refine NX.sub (env' := [(0, _), (4, _), (5, _)]) ⟨rfl, rfl, rfl, trivial⟩ ?_
  refine NX.then ?_
  refine Tr.seq ?_
  refine Tr.seq ?_
  refine Tr.region_f (fun _ => false) ?_
  refine W.q rfl rfl rfl rfl (by decide) (Yd.mv rfl (.t rfl)) ?_
  refine W.q rfl rfl rfl rfl (by decide) (Yd.lenR hscript_0 rfl Try.underlying50 (.t rfl)) ?_
  refine W.q rfl rfl rfl rfl (by decide) (Yd.mv rfl .c) ?_
  refine W.end ?_
  refine NX.sub (env' := [(4, _), (5, _), (11, _), (12, _), (13, _)]) ⟨rfl, rfl, rfl, rfl, rfl, trivial⟩ ?_
  refine NX.then ?_
  refine Tr.addnil 26 1 ?_
  refine Tr.addnil 42 4 ?_
  refine Tr.freezeT (enc := Leaf.enc) (n := 4) (pos := 0) (xs := ([] : List Leaf)) (fun _ => rfl) rfl (fun m17 hsm17 hu18 => ?_)
  have hscript_0 := hscript_0.mono hsm17
  refine Tr.cast (m' := m17) (l' := hownT 26 1 encI (.slice none 0 0) (([] : List Int)) :: l) rfl rfl ?_
  refine Tr.join (S := fun env x => ∃ l_33 : List Leaf, ∃ l36 : List Int, ∃ m38 : Snap, ∃ u34 : Value, ∃ v37 : Value, Sle m17 m38 ∧ RS rLeaf m38 u34 l_33 ∧ env = [(4, v37), (5, u34)] ∧ x = ⟨m38, hownT 26 1 encI v37 l36 :: l⟩ ∧ syllogistref_Strokes_k39 l_33 l36 = some r) ?_ (fun hk40 => ?_)
  · rintro _ _ ⟨l_33, l36, m38, u34, v37, hsm38, hu35, rfl, rfl, hr⟩
    unfold syllogistref_Strokes_k39 at hr
    try dsimp only at hr
    have hscript_0 := hscript_0.mono hsm38
    have hu18 := hu18.mono hsm38
    refine NX.then ?_
    refine Tr.seq ?_
    refine Tr.region_f (fun _ => false) ?_
    refine W.q rfl rfl rfl rfl (by decide) (Yd.mv rfl (.t rfl)) ?_
    refine W.q rfl rfl rfl rfl (by decide) (Yd.mv rfl (.t rfl)) ?_
    refine W.q rfl rfl rfl rfl (by decide) (Yd.as rfl (.t rfl)) ?_
    refine W.q rfl rfl rfl rfl (by decide) (Yd.as rfl (.t rfl)) ?_
    refine W.end ?_
    refine NX.sub (env' := [(2, _), (3, _)]) ⟨rfl, rfl, trivial⟩ ?_
    refine NX.then ?_
    refine Tr.ret' ?_
    refine res2 rfl rfl rfl ?_
    intro w hc
    cases hr
    obtain ⟨m41, hsm41, hu42, hc⟩ := cX_freeze (enc := encI) (n := 1) (p := 0) (fun _ => rfl) hc rfl
    have hscript_0 := hscript_0.mono hsm41
    have hu18 := hu18.mono hsm41
    have hu35 := hu35.mono hsm41
    exact ⟨_, _, _, rfl, ((hsm17.trans hsm38).trans hsm41), hu42, hu35, hc⟩
  have hlen43 := (hscript_0).2.1
  refine Tr.block ?_
  refine Tr.sub (env' := [(4, _), (5, _), (11, _), (12, _), (13, _)]) ⟨rfl, rfl, rfl, rfl, rfl, trivial⟩ ?_
  refine Tr.loop (S := fun n (z : Int × (List Leaf) × (List Int)) env x => match z with | (t_44, l_26, l30) => ∃ m32 : Snap, ∃ u27 : Value, ∃ v31 : Value, Sle m17 m32 ∧ RS rLeaf m32 u27 l_26 ∧ env = [(4, v31), (5, u27), (11, uscript_0), (12, .int .i64 ((script_0.length : Int))), (13, .int .i64 t_44)] ∧ x = ⟨m32, hownT 26 1 encI v31 l30 :: l⟩ ∧ n = ((script_0.length : Int) - t_44).toNat ∧ 0 ≤ t_44 ∧ forK (σ := (List Leaf) × (List Int)) (fun i s nx_ => syllogistref_Strokes_b45 script_0 fuel i s.1 s.2 nx_) (fun s => syllogistref_Strokes_k39 s.1 s.2) n t_44 (l_26, l30) = some r) _ ((0 : Int), ([] : List Leaf), ([] : List Int)) ⟨_, _, _, (.refl _), hu18, rfl, rfl, rfl, (by omega), hr⟩ ?_
  rintro n47 ⟨t_44, l_26, l30⟩ env x ⟨m32, u27, v31, hsm32, hu28, rfl, rfl, hnt_44, h0t_44, hr⟩
  have hscript_0 := hscript_0.mono hsm32
  have hu18 := hu18.mono hsm32
  cases n47 with
  | zero =>
    simp only [forK] at hr
    refine Tr.seq ?_
    refine Tr.region_f (fun _ => false) ?_
    refine W.q rfl rfl rfl rfl (by decide) (Yd.lss rfl (.t rfl) (.t rfl)) ?_
    refine W.end ?_
    refine NX.sub (env' := [(4, _), (5, _), (11, _), (12, _), (13, _), (14, _)]) ⟨rfl, rfl, rfl, rfl, rfl, rfl, trivial⟩ ?_
    refine NX.then ?_
    refine Tr.seq ?_
    refine Tr.cond (.t rfl) (fun hb => ?_) (fun hb => ?_)
    · exact absurd (hb.symm.trans (fr_end hnt_44)) (by decide)
    ·
      refine Tr.exit' (EX.then (EX.then (EX.block ?_)))
      refine NX.sub (env' := [(4, _), (5, _)]) ⟨rfl, rfl, trivial⟩ ?_
      exact hk40 _ _ ⟨_, _, _, _, _, hsm32, hu28, rfl, rfl, hr⟩
  | succ n47 =>
    obtain ⟨nx46, hnx46, hr⟩ := forK_succ hr
    try dsimp only at hr
    unfold syllogistref_Strokes_b45 at hr
    try dsimp only at hr
    have hltt_44 := fr_bnd hnt_44
    refine Tr.seq ?_
    refine Tr.region_f (fun _ => false) ?_
    refine W.q rfl rfl rfl rfl (by decide) (Yd.lss rfl (.t rfl) (.t rfl)) ?_
    refine W.end ?_
    refine NX.sub (env' := [(4, _), (5, _), (11, _), (12, _), (13, _), (14, _)]) ⟨rfl, rfl, rfl, rfl, rfl, rfl, trivial⟩ ?_
    refine NX.then ?_
    refine Tr.seq ?_
    refine Tr.cond (.t rfl) (fun hb => ?_) (fun hb => ?_)
    rotate_left
    · exact absurd (hb.symm.trans (fr_go hnt_44)) (by decide)
    ·
      refine Tr.skip' ?_
      refine NX.then ?_
      refine Tr.seq ?_
      refine Tr.block ?_
      refine Tr.seq ?_
      refine Tr.addnil 3 1 ?_
      refine Tr.cast (m' := m32) (l' := hownT 3 1 encI (.slice none 0 0) (([] : List Int)) :: hownT 26 1 encI v31 l30 :: l) rfl rfl ?_
      obtain ⟨y49, hy50, hr⟩ := bind_some hr
      refine Tr.region_f (fun i => Nat.beq i 2 || Nat.beq i 3) ?_
      refine W.q rfl rfl rfl rfl (by decide) (Yd.idxR hscript_0 hy50 rfl Try.underlying50 SZ47 (.t rfl) (.t rfl)) ?_
      obtain ⟨_, ⟨u51, rfl, hu52⟩, hat53⟩ := RS.el hscript_0 hy50
      refine W.q rfl rfl rfl rfl (by decide) (Yd.ldRs hat53 (.refl _) rfl ON47 US47 SZ47 rfl (.t rfl)) ?_
      refine W.e rfl rfl rfl rfl (by decide) (Ef.al rfl ZR47 rfl) ?_
      rintro _ _ ⟨b54, rfl, rfl⟩
      refine ⟨.inl rfl, ?_⟩
      refine W.cast (m' := m32) (l' := hcells b54 [_, _, _, _, _] 47 :: hownT 3 1 encI (.slice none 0 0) (([] : List Int)) :: hownT 26 1 encI v31 _ :: l) rfl rfl ?_
      refine W.s rfl rfl rfl rfl (Ef.stBs (pos := 0) (us := [.int .i64 y49.kind, .int .i64 y49.who.level, .int .u32 (y49.who.parts.toNat : Int), u51, .int .i64 y49.text]) (cs' := [_, _, _, _, _]) (.cons (On.lit rfl) (.cons (On.lit rfl) (.cons (On.lit rfl) (.cons (On.ro hu52) (.cons (On.lit rfl) .nil))))) rfl rfl (.t rfl) (.t rfl) SZ47 rfl rfl (Nat.le_of_ble_eq_true rfl) rfl) ?_
      rintro _ _ ⟨rfl, rfl⟩
      refine ⟨.inl rfl, ?_⟩
      refine W.cast (m' := m32) (l' := hcells b54 [_, _, _, _, _] 47 :: hownT 3 1 encI (.slice none 0 0) (([] : List Int)) :: hownT 26 1 encI v31 _ :: l) rfl rfl ?_
      refine W.end ?_
      refine NX.sub (env' := [(4, _), (5, _), (11, _), (12, _), (13, _), (7, _)]) ⟨rfl, rfl, rfl, rfl, rfl, rfl, trivial⟩ ?_
      refine NX.drop (l' := hcells b54 [_, _, _, _, _] 47 :: hownT 26 1 encI v31 _ :: l) (.cons_cons _ (.cons _ (.cons_cons _ (.refl _)))) ?_
      refine NX.then ?_
      refine Tr.seq ?_
      obtain ⟨r56, hr57, hr⟩ := bind_some hr
      refine Tr.region_f (fun _ => false) ?_
      refine W.q rfl rfl rfl rfl (by decide) (Yd.fldB rfl Try.underlying47 rfl SZ25 rfl (.t rfl)) ?_
      refine W.q rfl rfl rfl rfl (by decide) (Yd.ldBs (pos := 0) (us := [_, _]) rfl rfl rfl rfl ON25 US25 SZ25 (.t rfl)) ?_
      refine W.q rfl rfl rfl rfl (by decide) (Yd.call (v := .int .i64 r56) rfl Try.func28 rfl rfl (.cons (.t rfl) .nil) (fun x' hx w hw => syllogistref_LabelCheck_ok w0 x'.m x'.l (({ level := y49.who.level, parts := y49.who.parts } : Label)) _ hr57 w hw)) ?_
      refine W.q rfl rfl rfl rfl (by decide) (Yd.as rfl (.t rfl)) ?_
      refine W.end ?_
      refine NX.sub (env' := [(4, _), (5, _), (11, _), (12, _), (13, _), (7, _), (8, _)]) ⟨rfl, rfl, rfl, rfl, rfl, rfl, rfl, trivial⟩ ?_
      refine NX.then ?_
      refine Tr.seq ?_
      refine Tr.seq ?_
      refine Tr.region_f (fun _ => false) ?_
      refine W.q rfl rfl rfl rfl (by decide) (Yd.mv rfl (.t rfl)) ?_
      refine W.q rfl rfl rfl rfl (by decide) (Yd.eql rfl (.t rfl) .c) ?_
      refine W.end ?_
      refine NX.sub (env' := [(4, _), (5, _), (11, _), (12, _), (13, _), (7, _), (8, _), (21, _)]) ⟨rfl, rfl, rfl, rfl, rfl, rfl, rfl, rfl, trivial⟩ ?_
      refine NX.then ?_
      refine Tr.cond (.t rfl) (fun hb => ?_) (fun hb => ?_)
      · have hr := cond_t hb hr
        refine Tr.seq ?_
        obtain ⟨r58, hr59, hr⟩ := bind_some hr
        refine Tr.region_f (fun i => Nat.beq i 2) ?_
        refine W.q rfl rfl rfl rfl (by decide) (Yd.mv rfl (.t rfl)) ?_
        refine W.q rfl rfl rfl rfl (by decide) (Yd.ldBs (pos := 0) (us := [_, _, _, _, _]) rfl rfl rfl rfl ON47 US47 SZ47 (.t rfl)) ?_
        refine W.e rfl rfl rfl rfl (by decide) (Ef.call (R := fun z x' => ∃ v60 : Value, z = .tuple #[v60, .int .i64 r58.2] ∧ x' = ⟨m32, hownT 42 4 Leaf.enc v60 r58.1 :: hcells b54 [.int .i64 y49.kind, .int .i64 y49.who.level, .int .u32 (y49.who.parts.toNat : Int), u51, .int .i64 y49.text] 47 :: hownT 26 1 encI v31 l30 :: l⟩) rfl Try.func23 rfl rfl (.cons (.t rfl) (.cons (.t rfl) .nil)) (fun w hw => (syllogistref_Stroke_ok w0 _ _ fuel _ _ hu28 _ _ hu52 _ hr59 w hw).mono fun e w' ⟨v60, he, hc'⟩ => ⟨_, _, he, ⟨v60, rfl, rfl⟩, hc'⟩)) ?_
        rintro _ _ ⟨v60, rfl, rfl⟩
        refine ⟨.inl rfl, ?_⟩
        refine W.cast (m' := m32) (l' := hownT 42 4 Leaf.enc v60 _ :: hcells b54 [_, _, _, _, _] 47 :: hownT 26 1 encI v31 _ :: l) rfl rfl ?_
        refine W.q rfl rfl rfl rfl (by decide) (Yd.mv rfl (.t rfl)) ?_
        refine W.q rfl rfl rfl rfl (by decide) (Yd.ext rfl (.t rfl) rfl) ?_
        refine W.q rfl rfl rfl rfl (by decide) (Yd.ext rfl (.t rfl) rfl) ?_
        refine W.q rfl rfl rfl rfl (by decide) (Yd.as rfl (.t rfl)) ?_
        refine W.q rfl rfl rfl rfl (by decide) (Yd.as rfl (.t rfl)) ?_
        refine W.end ?_
        refine NX.sub (env' := [(4, _), (5, _), (11, _), (12, _), (13, _), (9, _), (10, _)]) ⟨rfl, rfl, rfl, rfl, rfl, rfl, rfl, trivial⟩ ?_
        refine NX.drop (l' := hownT 42 4 Leaf.enc v60 _ :: hownT 26 1 encI v31 _ :: l) (.cons_cons _ (.cons _ (.cons_cons _ (.refl _)))) ?_
        refine NX.then ?_
        refine Tr.seq ?_
        refine Tr.region_f (fun _ => false) ?_
        refine W.q rfl rfl rfl rfl (by decide) (Yd.mv rfl (.t rfl)) ?_
        refine W.q rfl rfl rfl rfl (by decide) (Yd.as rfl (.t rfl)) ?_
        refine W.end ?_
        refine NX.sub (env' := [(4, _), (5, _), (11, _), (12, _), (13, _), (9, _), (10, _), (8, _)]) ⟨rfl, rfl, rfl, rfl, rfl, rfl, rfl, rfl, trivial⟩ ?_
        refine NX.then ?_
        refine Tr.seq ?_
        refine Tr.region_f (fun _ => false) ?_
        refine W.q rfl rfl rfl rfl (by decide) (Yd.mv rfl (.t rfl)) ?_
        refine W.q rfl rfl rfl rfl (by decide) (Yd.eql rfl (.t rfl) .c) ?_
        refine W.end ?_
        refine NX.sub (env' := [(4, _), (5, _), (11, _), (12, _), (13, _), (9, _), (8, _), (30, _)]) ⟨rfl, rfl, rfl, rfl, rfl, rfl, rfl, rfl, trivial⟩ ?_
        refine NX.then ?_
        refine Tr.cond (.t rfl) (fun hb => ?_) (fun hb => ?_)
        · have hr := cond_t hb hr
          refine Tr.region_f (fun _ => false) ?_
          refine W.q rfl rfl rfl rfl (by decide) (Yd.mv rfl (.t rfl)) ?_
          refine W.q rfl rfl rfl rfl (by decide) (Yd.as rfl (.t rfl)) ?_
          refine W.end ?_
          refine NX.sub (env' := [(4, _), (5, _), (11, _), (12, _), (13, _), (8, _)]) ⟨rfl, rfl, rfl, rfl, rfl, rfl, trivial⟩ ?_
          refine NX.then ?_
          obtain ⟨hq65, hr⟩ := guard_some hr; replace hq65 := of_decide_eq_true hq65
          refine Tr.region_f (fun i => Nat.beq i 2 || Nat.beq i 3) ?_
          refine W.q rfl rfl rfl rfl (by decide) (Yd.mv rfl (.t rfl)) ?_
          refine W.q rfl rfl rfl rfl (by decide) (Yd.mv rfl (.t rfl)) ?_
          refine W.e rfl rfl rfl rfl (by decide) (Ef.bsT (enc := encI) (vs := [_]) (ys := [r58.2]) (fun _ => rfl) IF26 rfl Try.underlying51 (by decide) rfl (.cons (.t rfl) .nil) rfl rfl (by decide)) ?_
          rintro v62 _ rfl
          refine ⟨.inl rfl, ?_⟩
          refine W.cast (m' := m32) (l' := hownT 26 1 encI v62 _ :: hownT 42 4 Leaf.enc v60 _ :: hownT 26 1 encI v31 _ :: l) rfl rfl ?_
          refine W.e rfl rfl rfl rfl (by decide) (Ef.apI (pos := 2) (enc := encI) (xs := l30) (ys := ([r58.2] : List Int)) (fun _ => rfl) IF26 rfl rfl Try.underlying51 rfl (by decide) (.t rfl) (.t rfl) (Src.own (pos := 0) rfl) (fun _ => rfl) (by omega) (by omega)) ?_
          rintro v64 _ rfl
          refine ⟨.inl rfl, ?_⟩
          refine W.cast (m' := m32) (l' := hownT 26 1 encI v62 _ :: hownT 42 4 Leaf.enc v60 _ :: hownT 26 1 encI v64 _ :: l) rfl rfl ?_
          refine W.q rfl rfl rfl rfl (by decide) (Yd.as rfl (.t rfl)) ?_
          refine W.end ?_
          refine NX.sub (env' := [(4, _), (5, _), (11, _), (12, _), (13, _)]) ⟨rfl, rfl, rfl, rfl, rfl, trivial⟩ ?_
          refine NX.drop (l' := hownT 42 4 Leaf.enc v60 _ :: hownT 26 1 encI v64 _ :: l) (.cons _ (.cons_cons _ (.cons_cons _ (.refl _)))) ?_
          refine NX.block ?_
          refine NX.then ?_
          refine Tr.region_f (fun _ => false) ?_
          refine W.q rfl rfl rfl rfl (by decide) (Yd.add rfl (.t rfl) .c) ?_
          refine W.q rfl rfl rfl rfl (by decide) (Yd.mv rfl (.t rfl)) ?_
          refine W.end ?_
          refine NX.sub (env' := [(4, _), (5, _), (11, _), (12, _), (13, _)]) ⟨rfl, rfl, rfl, rfl, rfl, trivial⟩ ?_
          refine NX.freezeT (enc := Leaf.enc) (n := 4) (pos := 0) (xs := r58.1) (fun _ => rfl) rfl (fun m66 hsm66 hu67 => ?_)
          have hscript_0 := hscript_0.mono hsm66
          have hu18 := hu18.mono hsm66
          have hu28 := hu28.mono hsm66
          have hu52 := hu52.mono hsm66
          refine NX.cast (m' := m66) (l' := hownT 26 1 encI v64 _ :: l) rfl rfl ?_
          refine NX.sub (env' := [(4, _), (5, _), (11, _), (12, _), (13, _)]) ⟨rfl, rfl, rfl, rfl, rfl, trivial⟩ ?_
          have hw := w64_id (n := t_44 + 1) (by omega) (by omega)
          exact NX.again n47 (t_44 + 1, r58.1, (l30 ++ ([r58.2] : List Int))) (Nat.lt_succ_self _) ⟨_, _, _, (hsm32.trans hsm66), hu67, (by rw [hw] <;> rfl), rfl, (fr_dec hnt_44), (by omega), ((hnx46 _).symm.trans hr)⟩
        · have hr := cond_f hb hr
          refine Tr.skip' ?_
          refine NX.then ?_
          obtain ⟨hq71, hr⟩ := guard_some hr; replace hq71 := of_decide_eq_true hq71
          refine Tr.region_f (fun i => Nat.beq i 2 || Nat.beq i 3) ?_
          refine W.q rfl rfl rfl rfl (by decide) (Yd.mv rfl (.t rfl)) ?_
          refine W.q rfl rfl rfl rfl (by decide) (Yd.mv rfl (.t rfl)) ?_
          refine W.e rfl rfl rfl rfl (by decide) (Ef.bsT (enc := encI) (vs := [_]) (ys := [r58.2]) (fun _ => rfl) IF26 rfl Try.underlying51 (by decide) rfl (.cons (.t rfl) .nil) rfl rfl (by decide)) ?_
          rintro v68 _ rfl
          refine ⟨.inl rfl, ?_⟩
          refine W.cast (m' := m32) (l' := hownT 26 1 encI v68 _ :: hownT 42 4 Leaf.enc v60 _ :: hownT 26 1 encI v31 _ :: l) rfl rfl ?_
          refine W.e rfl rfl rfl rfl (by decide) (Ef.apI (pos := 2) (enc := encI) (xs := l30) (ys := ([r58.2] : List Int)) (fun _ => rfl) IF26 rfl rfl Try.underlying51 rfl (by decide) (.t rfl) (.t rfl) (Src.own (pos := 0) rfl) (fun _ => rfl) (by omega) (by omega)) ?_
          rintro v70 _ rfl
          refine ⟨.inl rfl, ?_⟩
          refine W.cast (m' := m32) (l' := hownT 26 1 encI v68 _ :: hownT 42 4 Leaf.enc v60 _ :: hownT 26 1 encI v70 _ :: l) rfl rfl ?_
          refine W.q rfl rfl rfl rfl (by decide) (Yd.as rfl (.t rfl)) ?_
          refine W.end ?_
          refine NX.sub (env' := [(4, _), (5, _), (11, _), (12, _), (13, _)]) ⟨rfl, rfl, rfl, rfl, rfl, trivial⟩ ?_
          refine NX.drop (l' := hownT 26 1 encI v70 _ :: l) (.cons _ (.cons _ (.cons_cons _ (.refl _)))) ?_
          refine NX.block ?_
          refine NX.then ?_
          refine Tr.region_f (fun _ => false) ?_
          refine W.q rfl rfl rfl rfl (by decide) (Yd.add rfl (.t rfl) .c) ?_
          refine W.q rfl rfl rfl rfl (by decide) (Yd.mv rfl (.t rfl)) ?_
          refine W.end ?_
          refine NX.sub (env' := [(4, _), (5, _), (11, _), (12, _), (13, _)]) ⟨rfl, rfl, rfl, rfl, rfl, trivial⟩ ?_
          refine NX.sub (env' := [(4, _), (5, _), (11, _), (12, _), (13, _)]) ⟨rfl, rfl, rfl, rfl, rfl, trivial⟩ ?_
          have hw := w64_id (n := t_44 + 1) (by omega) (by omega)
          exact NX.again n47 (t_44 + 1, l_26, (l30 ++ ([r58.2] : List Int))) (Nat.lt_succ_self _) ⟨_, _, _, hsm32, hu28, (by rw [hw] <;> rfl), rfl, (fr_dec hnt_44), (by omega), ((hnx46 _).symm.trans hr)⟩
      · have hr := cond_f hb hr
        refine Tr.skip' ?_
        refine NX.then ?_
        obtain ⟨hq75, hr⟩ := guard_some hr; replace hq75 := of_decide_eq_true hq75
        refine Tr.region_f (fun i => Nat.beq i 2 || Nat.beq i 3) ?_
        refine W.q rfl rfl rfl rfl (by decide) (Yd.mv rfl (.t rfl)) ?_
        refine W.q rfl rfl rfl rfl (by decide) (Yd.mv rfl (.t rfl)) ?_
        refine W.e rfl rfl rfl rfl (by decide) (Ef.bsT (enc := encI) (vs := [_]) (ys := [r56]) (fun _ => rfl) IF26 rfl Try.underlying51 (by decide) rfl (.cons (.t rfl) .nil) rfl rfl (by decide)) ?_
        rintro v72 _ rfl
        refine ⟨.inl rfl, ?_⟩
        refine W.cast (m' := m32) (l' := hownT 26 1 encI v72 _ :: hcells b54 [_, _, _, _, _] 47 :: hownT 26 1 encI v31 _ :: l) rfl rfl ?_
        refine W.e rfl rfl rfl rfl (by decide) (Ef.apI (pos := 2) (enc := encI) (xs := l30) (ys := ([r56] : List Int)) (fun _ => rfl) IF26 rfl rfl Try.underlying51 rfl (by decide) (.t rfl) (.t rfl) (Src.own (pos := 0) rfl) (fun _ => rfl) (by omega) (by omega)) ?_
        rintro v74 _ rfl
        refine ⟨.inl rfl, ?_⟩
        refine W.cast (m' := m32) (l' := hownT 26 1 encI v72 _ :: hcells b54 [_, _, _, _, _] 47 :: hownT 26 1 encI v74 _ :: l) rfl rfl ?_
        refine W.q rfl rfl rfl rfl (by decide) (Yd.as rfl (.t rfl)) ?_
        refine W.end ?_
        refine NX.sub (env' := [(4, _), (5, _), (11, _), (12, _), (13, _)]) ⟨rfl, rfl, rfl, rfl, rfl, trivial⟩ ?_
        refine NX.drop (l' := hownT 26 1 encI v74 _ :: l) (.cons _ (.cons _ (.cons_cons _ (.refl _)))) ?_
        refine NX.block ?_
        refine NX.then ?_
        refine Tr.region_f (fun _ => false) ?_
        refine W.q rfl rfl rfl rfl (by decide) (Yd.add rfl (.t rfl) .c) ?_
        refine W.q rfl rfl rfl rfl (by decide) (Yd.mv rfl (.t rfl)) ?_
        refine W.end ?_
        refine NX.sub (env' := [(4, _), (5, _), (11, _), (12, _), (13, _)]) ⟨rfl, rfl, rfl, rfl, rfl, trivial⟩ ?_
        refine NX.sub (env' := [(4, _), (5, _), (11, _), (12, _), (13, _)]) ⟨rfl, rfl, rfl, rfl, rfl, trivial⟩ ?_
        have hw := w64_id (n := t_44 + 1) (by omega) (by omega)
        exact NX.again n47 (t_44 + 1, l_26, (l30 ++ ([r56] : List Int))) (Nat.lt_succ_self _) ⟨_, _, _, hsm32, hu28, (by rw [hw] <;> rfl), rfl, (fr_dec hnt_44), (by omega), ((hnx46 _).symm.trans hr)⟩

def syllogistref_Codes_k3 : Option (Bool) :=
  some true

def syllogistref_Codes_b7 (a_0 : List Int) (b_1 : List Int) (i_6 : Int) (nx8 : Unit → Option (Bool)) : Option (Bool) :=
  (geti a_0 i_6).bind fun y10 =>
  (geti b_1 i_6).bind fun y12 =>
  (bif (y10 != y12) then
  some false
  else
  nx8 ())

def syllogistref_Codes (a_0 : List Int) (b_1 : List Int) : Option (Bool) :=
  (bif ((a_0.length : Int) != (b_1.length : Int)) then
  some false
  else
  forK (σ := Unit) (fun i s nx_ => syllogistref_Codes_b7 a_0 b_1 i nx_) (fun _ => syllogistref_Codes_k3) ((a_0.length : Int) - (0 : Int)).toNat (0 : Int) ())

set_option maxRecDepth 100000 in
set_option maxHeartbeats 4000000 in
theorem syllogistref_Codes_ok (w0 : World) (m : Snap) (l : List HI) (ua_0 : Value) (a_0 : List Int) (ha_0 : RS rI m ua_0 a_0) (ub_1 : Value) (b_1 : List Int) (hb_1 : RS rI m ub_1 b_1) (r : Bool) (hr : syllogistref_Codes a_0 b_1 = some r) (w : World) (hc : cX w0 ⟨m, l⟩ w) :
    Calls Try.prog 26 [ua_0, ub_1].toArray w fun e w' => e = .returned (.bool r) ∧ cX w0 ⟨m, l⟩ w' := by
  unfold syllogistref_Codes at hr
  refine calls_of_Tr (N := 26) Try.func26 rfl hc rfl (Nat.le_of_ble_eq_true rfl) ?_
  refine Tr.seq ?_
  refine Tr.region_f (fun _ => false) ?_
  refine W.q rfl rfl rfl rfl (by decide) (Yd.as rfl .c) ?_
  refine W.end ?_
  refine NX.sub (env' := [(0, _), (1, _)]) ⟨rfl, rfl, trivial⟩ ?_
  refine NX.then ?_
  refine Tr.seq ?_
  refine Tr.seq ?_
  refine Tr.region_f (fun _ => false) ?_
  refine W.q rfl rfl rfl rfl (by decide) (Yd.mv rfl (.t rfl)) ?_
  refine W.q rfl rfl rfl rfl (by decide) (Yd.lenR ha_0 rfl Try.underlying51 (.t rfl)) ?_
  refine W.q rfl rfl rfl rfl (by decide) (Yd.mv rfl (.t rfl)) ?_
  refine W.q rfl rfl rfl rfl (by decide) (Yd.lenR hb_1 rfl Try.underlying51 (.t rfl)) ?_
  refine W.q rfl rfl rfl rfl (by decide) (Yd.neq rfl (.t rfl) (.t rfl)) ?_
  refine W.end ?_
  refine NX.sub (env' := [(0, _), (1, _), (10, _)]) ⟨rfl, rfl, rfl, trivial⟩ ?_
  refine NX.then ?_
  refine Tr.cond (.t rfl) (fun hb => ?_) (fun hb => ?_)
  · have hr := cond_t hb hr
    refine Tr.seq ?_
    refine Tr.region_f (fun _ => false) ?_
    refine W.q rfl rfl rfl rfl (by decide) (Yd.as rfl .c) ?_
    refine W.end ?_
    refine NX.sub (env' := [(4, _)]) ⟨rfl, trivial⟩ ?_
    refine NX.then ?_
    refine Tr.ret' (RT.then ?_)
    refine res1 rfl rfl ?_
    intro w hc
    cases hr
    exact ⟨rfl, hc⟩
  · have hr := cond_f hb hr
    refine Tr.skip' ?_
    refine NX.then ?_
    refine Tr.seq ?_
    refine Tr.seq ?_
    refine Tr.region_f (fun _ => false) ?_
    refine W.q rfl rfl rfl rfl (by decide) (Yd.as rfl .c) ?_
    refine W.end ?_
    refine NX.sub (env' := [(0, _), (1, _), (5, _)]) ⟨rfl, rfl, rfl, trivial⟩ ?_
    refine NX.then ?_
    refine Tr.join (S := fun env x => env = [] ∧ x = ⟨m, l⟩ ∧ syllogistref_Codes_k3 = some r) ?_ (fun hk4 => ?_)
    · rintro _ _ ⟨rfl, rfl, hr⟩
      unfold syllogistref_Codes_k3 at hr
      try dsimp only at hr
      refine NX.then ?_
      refine Tr.seq ?_
      refine Tr.region_f (fun _ => false) ?_
      refine W.q rfl rfl rfl rfl (by decide) (Yd.as rfl .c) ?_
      refine W.end ?_
      refine NX.sub (env' := [(4, _)]) ⟨rfl, trivial⟩ ?_
      refine NX.then ?_
      refine Tr.ret' ?_
      refine res1 rfl rfl ?_
      intro w hc
      cases hr
      exact ⟨rfl, hc⟩
    have hlen5 := (ha_0).2.1
    refine Tr.block ?_
    refine Tr.sub (env' := [(0, _), (1, _), (5, _)]) ⟨rfl, rfl, rfl, trivial⟩ ?_
    refine Tr.loop (S := fun n (z : Int × Unit) env x => match z with | (i_6, _) => env = [(0, ua_0), (1, ub_1), (5, .int .i64 i_6)] ∧ x = ⟨m, l⟩ ∧ n = ((a_0.length : Int) - i_6).toNat ∧ 0 ≤ i_6 ∧ forK (σ := Unit) (fun i s nx_ => syllogistref_Codes_b7 a_0 b_1 i nx_) (fun _ => syllogistref_Codes_k3) n i_6 () = some r) _ ((0 : Int), ()) ⟨rfl, rfl, rfl, (by omega), hr⟩ ?_
    rintro n9 ⟨i_6, _⟩ env x ⟨rfl, rfl, hni_6, h0i_6, hr⟩
    cases n9 with
    | zero =>
      simp only [forK] at hr
      refine Tr.seq ?_
      refine Tr.seq ?_
      refine Tr.region_f (fun _ => false) ?_
      refine W.q rfl rfl rfl rfl (by decide) (Yd.mv rfl (.t rfl)) ?_
      refine W.q rfl rfl rfl rfl (by decide) (Yd.mv rfl (.t rfl)) ?_
      refine W.q rfl rfl rfl rfl (by decide) (Yd.lenR ha_0 rfl Try.underlying51 (.t rfl)) ?_
      refine W.q rfl rfl rfl rfl (by decide) (Yd.lss rfl (.t rfl) (.t rfl)) ?_
      refine W.end ?_
      refine NX.sub (env' := [(0, _), (1, _), (5, _), (14, _)]) ⟨rfl, rfl, rfl, rfl, trivial⟩ ?_
      refine NX.then ?_
      refine Tr.cond (.t rfl) (fun hb => ?_) (fun hb => ?_)
      · exact absurd (hb.symm.trans (fr_end hni_6)) (by decide)
      ·
        refine Tr.exit' (EX.then (EX.then (EX.block ?_)))
        refine NX.sub (env' := []) trivial ?_
        exact hk4 _ _ ⟨rfl, rfl, hr⟩
    | succ n9 =>
      obtain ⟨nx8, hnx8, hr⟩ := forK_succ hr
      try dsimp only at hr
      unfold syllogistref_Codes_b7 at hr
      try dsimp only at hr
      have hlti_6 := fr_bnd hni_6
      refine Tr.seq ?_
      refine Tr.seq ?_
      refine Tr.region_f (fun _ => false) ?_
      refine W.q rfl rfl rfl rfl (by decide) (Yd.mv rfl (.t rfl)) ?_
      refine W.q rfl rfl rfl rfl (by decide) (Yd.mv rfl (.t rfl)) ?_
      refine W.q rfl rfl rfl rfl (by decide) (Yd.lenR ha_0 rfl Try.underlying51 (.t rfl)) ?_
      refine W.q rfl rfl rfl rfl (by decide) (Yd.lss rfl (.t rfl) (.t rfl)) ?_
      refine W.end ?_
      refine NX.sub (env' := [(0, _), (1, _), (5, _), (14, _)]) ⟨rfl, rfl, rfl, rfl, trivial⟩ ?_
      refine NX.then ?_
      refine Tr.cond (.t rfl) (fun hb => ?_) (fun hb => ?_)
      rotate_left
      · exact absurd (hb.symm.trans (fr_go hni_6)) (by decide)
      ·
        refine Tr.skip' ?_
        refine NX.then ?_
        refine Tr.seq ?_
        refine Tr.block ?_
        refine Tr.seq ?_
        obtain ⟨y10, hy11, hr⟩ := bind_some hr
        obtain ⟨y12, hy13, hr⟩ := bind_some hr
        refine Tr.region_x (fun _ => false) (fun _ => false) (Ord.of [0, 1, 2, 3, 4, 5, 6, 7, 8]) FM (by kernel_rfl) ?_
        refine W.q rfl rfl rfl rfl (by decide) (Yd.mv rfl (.t rfl)) ?_
        refine W.q rfl rfl rfl rfl (by decide) (Yd.mv rfl (.t rfl)) ?_
        refine W.q rfl rfl rfl rfl (by decide) (Yd.idxR ha_0 hy11 rfl Try.underlying51 SZ26 (.t rfl) (.t rfl)) ?_
        refine W.q rfl rfl rfl rfl (by decide) (Yd.ldF ha_0 (.refl _) hy11 rfl rfl ON26 (.t rfl)) ?_
        refine W.q rfl rfl rfl rfl (by decide) (Yd.mv rfl (.t rfl)) ?_
        refine W.q rfl rfl rfl rfl (by decide) (Yd.mv rfl (.t rfl)) ?_
        refine W.q rfl rfl rfl rfl (by decide) (Yd.idxR hb_1 hy13 rfl Try.underlying51 SZ26 (.t rfl) (.t rfl)) ?_
        refine W.q rfl rfl rfl rfl (by decide) (Yd.ldF hb_1 (.refl _) hy13 rfl rfl ON26 (.t rfl)) ?_
        refine W.q rfl rfl rfl rfl (by decide) (Yd.neq rfl (.t rfl) (.t rfl)) ?_
        refine W.end ?_
        refine NX.sub (env' := [(0, _), (1, _), (5, _), (25, _)]) ⟨rfl, rfl, rfl, rfl, trivial⟩ ?_
        refine NX.then ?_
        refine Tr.cond (.t rfl) (fun hb => ?_) (fun hb => ?_)
        · have hr := cond_t hb hr
          refine Tr.seq ?_
          refine Tr.region_f (fun _ => false) ?_
          refine W.q rfl rfl rfl rfl (by decide) (Yd.as rfl .c) ?_
          refine W.end ?_
          refine NX.sub (env' := [(4, _)]) ⟨rfl, trivial⟩ ?_
          refine NX.then ?_
          refine Tr.ret' (RT.block (RT.then (RT.then (RT.block (RT.then ?_)))))
          refine res1 rfl rfl ?_
          intro w hc
          cases hr
          exact ⟨rfl, hc⟩
        · have hr := cond_f hb hr
          refine Tr.skip' ?_
          refine NX.block ?_
          refine NX.then ?_
          refine Tr.region_f (fun _ => false) ?_
          refine W.q rfl rfl rfl rfl (by decide) (Yd.mv rfl (.t rfl)) ?_
          refine W.q rfl rfl rfl rfl (by decide) (Yd.add rfl (.t rfl) .c) ?_
          refine W.q rfl rfl rfl rfl (by decide) (Yd.as rfl (.t rfl)) ?_
          refine W.end ?_
          refine NX.sub (env' := [(0, _), (1, _), (5, _)]) ⟨rfl, rfl, rfl, trivial⟩ ?_
          refine NX.sub (env' := [(0, _), (1, _), (5, _)]) ⟨rfl, rfl, rfl, trivial⟩ ?_
          have hw := w64_id (n := i_6 + 1) (by omega) (by omega)
          exact NX.again n9 (i_6 + 1, ()) (Nat.lt_succ_self _) ⟨(by rw [hw] <;> rfl), rfl, (fr_dec hni_6), (by omega), ((hnx8 _).symm.trans hr)⟩

def syllogistlaw_HandsPlays (fuel : Nat) (script_0 : List Stroke) : Option (Bool) :=
  (hands_Play fuel script_0).bind fun r1 =>
  (bif (decide ((script_0.length : Int) > (30 : Int))) then
  some ((((r1.2.2 == (1 : Int)) && ((r1.1.length : Int) == (0 : Int))) && ((r1.2.1.length : Int) == (0 : Int))))
  else
  (syllogistref_Strokes fuel script_0).bind fun r8 =>
  bif (!((r1.2.2 == (0 : Int)) == true) || (syllogistref_Codes r1.1 r8.1).isSome) then
  bif (!(((r1.2.2 == (0 : Int)) && (((syllogistref_Codes r1.1 r8.1).getD false))) == true) || (syllogistref_Leaves r1.2.1 r8.2).isSome) then
  some ((((r1.2.2 == (0 : Int)) && (((syllogistref_Codes r1.1 r8.1).getD false))) && (((syllogistref_Leaves r1.2.1 r8.2).getD false)))) else none else none)

set_option maxRecDepth 100000 in
set_option maxHeartbeats 4000000 in
theorem syllogistlaw_HandsPlays_ok (w0 : World) (m : Snap) (l : List HI) (fuel : Nat) (uscript_0 : Value) (script_0 : List Stroke) (hscript_0 : RS rStroke m uscript_0 script_0) (r : Bool) (hr : syllogistlaw_HandsPlays fuel script_0 = some r) (w : World) (hc : cX w0 ⟨m, l⟩ w) :
    Calls Try.prog 7 [uscript_0].toArray w fun e w' => e = .returned (.bool r) ∧ cX w0 ⟨m, l⟩ w' := by
  unfold syllogistlaw_HandsPlays at hr
  refine calls_of_Tr (N := 46) Try.func7 rfl hc rfl (Nat.le_of_ble_eq_true rfl) ?_
  refine Tr.seq ?_
  refine Tr.region_f (fun _ => false) ?_
  refine W.q rfl rfl rfl rfl (by decide) (Yd.as rfl .c) ?_
  refine W.end ?_
  refine NX.sub (env' := [(0, _)]) ⟨rfl, trivial⟩ ?_
  refine NX.then ?_
  refine Tr.seq ?_
  obtain ⟨r1, hr2, hr⟩ := bind_some hr
  refine Tr.region_f (fun i => Nat.beq i 1) ?_
  refine W.q rfl rfl rfl rfl (by decide) (Yd.mv rfl (.t rfl)) ?_
  refine W.e rfl rfl rfl rfl (by decide) (Ef.call (R := fun z x' => ∃ u3 : Value, ∃ u6 : Value, ∃ m4 : Snap, z = .tuple #[u3, u6, .int .i64 r1.2.2] ∧ x' = ⟨m4, l⟩ ∧ Sle m m4 ∧ RS rI m4 u3 r1.1 ∧ RS rLeaf m4 u6 r1.2.1) rfl Try.func24 rfl rfl (.cons (.t rfl) .nil) (fun w hw => (hands_Play_ok w0 _ _ fuel _ _ hscript_0 _ hr2 w hw).mono fun e w' ⟨u3, u6, m4, he, hm', hu5, hu7, hc'⟩ => ⟨_, _, he, ⟨u3, u6, m4, rfl, rfl, hm', hu5, hu7⟩, hc'⟩)) ?_
  rintro _ _ ⟨u3, u6, m4, rfl, rfl, hsm4, hu5, hu7⟩
  have hscript_0 := hscript_0.mono hsm4
  refine ⟨.inl rfl, ?_⟩
  refine W.cast (m' := m4) (l' := l) rfl rfl ?_
  refine W.q rfl rfl rfl rfl (by decide) (Yd.mv rfl (.t rfl)) ?_
  refine W.q rfl rfl rfl rfl (by decide) (Yd.ext rfl (.t rfl) rfl) ?_
  refine W.q rfl rfl rfl rfl (by decide) (Yd.ext rfl (.t rfl) rfl) ?_
  refine W.q rfl rfl rfl rfl (by decide) (Yd.ext rfl (.t rfl) rfl) ?_
  refine W.q rfl rfl rfl rfl (by decide) (Yd.as rfl (.t rfl)) ?_
  refine W.q rfl rfl rfl rfl (by decide) (Yd.as rfl (.t rfl)) ?_
  refine W.q rfl rfl rfl rfl (by decide) (Yd.as rfl (.t rfl)) ?_
  refine W.end ?_
  refine NX.sub (env' := [(0, _), (3, _), (4, _), (5, _)]) ⟨rfl, rfl, rfl, rfl, trivial⟩ ?_
  refine NX.then ?_
  refine Tr.seq ?_
  refine Tr.seq ?_
  refine Tr.region_f (fun _ => false) ?_
  refine W.q rfl rfl rfl rfl (by decide) (Yd.mv rfl (.t rfl)) ?_
  refine W.q rfl rfl rfl rfl (by decide) (Yd.lenR hscript_0 rfl Try.underlying50 (.t rfl)) ?_
  refine W.q rfl rfl rfl rfl (by decide) (Yd.gtr rfl (.t rfl) .c) ?_
  refine W.end ?_
  refine NX.sub (env' := [(0, _), (3, _), (4, _), (5, _), (16, _)]) ⟨rfl, rfl, rfl, rfl, rfl, trivial⟩ ?_
  refine NX.then ?_
  refine Tr.cond (.t rfl) (fun hb => ?_) (fun hb => ?_)
  · have hr := cond_t hb hr
    refine Tr.seq ?_
    refine Tr.region_f (fun _ => false) ?_
    refine W.q rfl rfl rfl rfl (by decide) (Yd.mv rfl (.t rfl)) ?_
    refine W.q rfl rfl rfl rfl (by decide) (Yd.eql rfl (.t rfl) .c) ?_
    refine W.q rfl rfl rfl rfl (by decide) (Yd.mv rfl (.t rfl)) ?_
    refine W.g rfl rfl rfl rfl rfl (.t rfl _) rfl (by decide) (fun hG => Yd.mv rfl (.t rfl)) ?_
    refine W.g rfl rfl rfl rfl rfl (.t rfl _) rfl (by decide) (fun hG => Yd.lenR hu5 rfl Try.underlying51 (.g rfl hG)) ?_
    refine W.g rfl rfl rfl rfl rfl (.t rfl _) rfl (by decide) (fun hG => Yd.eql rfl (.g rfl hG) .c) ?_
    refine W.q rfl rfl rfl rfl (by decide) (Yd.and rfl (.t rfl) .c rfl rfl) ?_
    refine W.q rfl rfl rfl rfl (by decide) (Yd.mv rfl (.t rfl)) ?_
    refine W.g rfl rfl rfl rfl rfl (.t rfl _) rfl (by decide) (fun hG => Yd.mv rfl (.t rfl)) ?_
    refine W.g rfl rfl rfl rfl rfl (.t rfl _) rfl (by decide) (fun hG => Yd.lenR hu7 rfl Try.underlying22 (.g rfl hG)) ?_
    refine W.g rfl rfl rfl rfl rfl (.t rfl _) rfl (by decide) (fun hG => Yd.eql rfl (.g rfl hG) .c) ?_
    refine W.q rfl rfl rfl rfl (by decide) (Yd.and rfl (.t rfl) .c rfl rfl) ?_
    refine W.q rfl rfl rfl rfl (by decide) (Yd.as rfl (.t rfl)) ?_
    refine W.end ?_
    refine NX.sub (env' := [(2, _)]) ⟨rfl, trivial⟩ ?_
    refine NX.then ?_
    refine Tr.ret' (RT.then ?_)
    refine res1 rfl rfl ?_
    intro w hc
    cases hr
    exact ⟨rfl, (cX_le (x := ⟨m, _⟩) ⟨hsm4, [], rfl⟩ hc)⟩
  · have hr := cond_f hb hr
    refine Tr.skip' ?_
    refine NX.then ?_
    refine Tr.seq ?_
    obtain ⟨r8, hr9, hr⟩ := bind_some hr
    refine Tr.region_f (fun i => Nat.beq i 1) ?_
    refine W.q rfl rfl rfl rfl (by decide) (Yd.mv rfl (.t rfl)) ?_
    refine W.e rfl rfl rfl rfl (by decide) (Ef.call (R := fun z x' => ∃ u10 : Value, ∃ u13 : Value, ∃ m11 : Snap, z = .tuple #[u10, u13] ∧ x' = ⟨m11, l⟩ ∧ Sle m4 m11 ∧ RS rI m11 u10 r8.1 ∧ RS rLeaf m11 u13 r8.2) rfl Try.func25 rfl rfl (.cons (.t rfl) .nil) (fun w hw => (syllogistref_Strokes_ok w0 _ _ fuel _ _ hscript_0 _ hr9 w hw).mono fun e w' ⟨u10, u13, m11, he, hm', hu12, hu14, hc'⟩ => ⟨_, _, he, ⟨u10, u13, m11, rfl, rfl, hm', hu12, hu14⟩, hc'⟩)) ?_
    rintro _ _ ⟨u10, u13, m11, rfl, rfl, hsm11, hu12, hu14⟩
    have hscript_0 := hscript_0.mono hsm11
    have hu5 := hu5.mono hsm11
    have hu7 := hu7.mono hsm11
    refine ⟨.inl rfl, ?_⟩
    refine W.cast (m' := m11) (l' := l) rfl rfl ?_
    refine W.q rfl rfl rfl rfl (by decide) (Yd.mv rfl (.t rfl)) ?_
    refine W.q rfl rfl rfl rfl (by decide) (Yd.ext rfl (.t rfl) rfl) ?_
    refine W.q rfl rfl rfl rfl (by decide) (Yd.ext rfl (.t rfl) rfl) ?_
    refine W.q rfl rfl rfl rfl (by decide) (Yd.as rfl (.t rfl)) ?_
    refine W.q rfl rfl rfl rfl (by decide) (Yd.as rfl (.t rfl)) ?_
    refine W.end ?_
    refine NX.sub (env' := [(3, _), (4, _), (5, _), (6, _), (7, _)]) ⟨rfl, rfl, rfl, rfl, rfl, trivial⟩ ?_
    refine NX.then ?_
    refine Tr.seq ?_
    obtain ⟨ha15, hr⟩ := guard_some hr
    obtain ⟨ha16, hr⟩ := guard_some hr
    refine Tr.region_f (fun _ => false) ?_
    refine W.q rfl rfl rfl rfl (by decide) (Yd.mv rfl (.t rfl)) ?_
    refine W.q rfl rfl rfl rfl (by decide) (Yd.eql rfl (.t rfl) .c) ?_
    refine W.q rfl rfl rfl rfl (by decide) (Yd.mv rfl (.t rfl)) ?_
    refine W.g rfl rfl rfl rfl rfl (.t rfl _) rfl (by decide) (fun hG => Yd.mv rfl (.t rfl)) ?_
    refine W.g rfl rfl rfl rfl rfl (.t rfl _) rfl (by decide) (fun hG => Yd.mv rfl (.t rfl)) ?_
    refine W.g rfl rfl rfl rfl rfl (.t rfl _) rfl (by decide) (fun hG => Yd.call (v := .bool ((((syllogistref_Codes r1.1 r8.1).getD false)))) rfl Try.func26 rfl rfl (.cons (.g rfl hG) (.cons (.g rfl hG) .nil)) (fun x' hx w hw => syllogistref_Codes_ok w0 x'.m x'.l _ _ (hu5.mono hx.1) _ _ (hu12.mono hx.1) _ (gd_get (d := false) ha15 hG) w hw)) ?_
    refine W.q rfl rfl rfl rfl (by decide) (Yd.and rfl (.t rfl) .c rfl rfl) ?_
    refine W.q rfl rfl rfl rfl (by decide) (Yd.mv rfl (.t rfl)) ?_
    refine W.g rfl rfl rfl rfl rfl (.t rfl _) rfl (by decide) (fun hG => Yd.mv rfl (.t rfl)) ?_
    refine W.g rfl rfl rfl rfl rfl (.t rfl _) rfl (by decide) (fun hG => Yd.mv rfl (.t rfl)) ?_
    refine W.g rfl rfl rfl rfl rfl (.t rfl _) rfl (by decide) (fun hG => Yd.call (v := .bool ((((syllogistref_Leaves r1.2.1 r8.2).getD false)))) rfl Try.func14 rfl rfl (.cons (.g rfl hG) (.cons (.g rfl hG) .nil)) (fun x' hx w hw => syllogistref_Leaves_ok w0 x'.m x'.l _ _ (hu7.mono hx.1) _ _ (hu14.mono hx.1) _ (gd_get (d := false) ha16 hG) w hw)) ?_
    refine W.q rfl rfl rfl rfl (by decide) (Yd.and rfl (.t rfl) .c rfl rfl) ?_
    refine W.q rfl rfl rfl rfl (by decide) (Yd.as rfl (.t rfl)) ?_
    refine W.end ?_
    refine NX.sub (env' := [(2, _)]) ⟨rfl, trivial⟩ ?_
    refine NX.then ?_
    refine Tr.ret' ?_
    refine res1 rfl rfl ?_
    intro w hc
    cases hr
    exact ⟨rfl, (cX_le (x := ⟨m, _⟩) ⟨(hsm4.trans hsm11), [], rfl⟩ hc)⟩

def hands_Seen_k21 (who_1 : Label) (r3 : (List Int) × (List Leaf) × Int) (l19 : List Int) : Option ((List Int) × (List Leaf) × Int) :=
  (page_View r3.2.1 (({ level := who_1.level, parts := who_1.parts } : Label))).bind fun r23 =>
  some ((l19, r23.1, (0 : Int)))

def hands_Seen_b29 (script_0 : List Stroke) (who_1 : Label) (r3 : (List Int) × (List Leaf) × Int) (t_28 : Int) (l17 : List Int) (nx30 : (List Int) → Option ((List Int) × (List Leaf) × Int)) : Option ((List Int) × (List Leaf) × Int) :=
  (geti script_0 t_28).bind fun y33 =>
  (label_Check (({ level := y33.who.level, parts := y33.who.parts } : Label))).bind fun r40 =>
  bif (!((r40 == (0 : Int)) == true) || (label_Least (({ level := y33.who.level, parts := y33.who.parts } : Label)) (({ level := who_1.level, parts := who_1.parts } : Label))).isSome) then
  (bif ((r40 == (0 : Int)) && (((label_Least (({ level := y33.who.level, parts := y33.who.parts } : Label)) (({ level := who_1.level, parts := who_1.parts } : Label))).getD false))) then
  (geti r3.1 t_28).bind fun y43 =>
  bif decide (l17.length + (([y43] : List Int)).length ≤ 17592186044416) then
  nx30 (l17 ++ ([y43] : List Int)) else none
  else
  nx30 l17) else none

def hands_Seen (fuel : Nat) (script_0 : List Stroke) (who_1 : Label) : Option ((List Int) × (List Leaf) × Int) :=
  (hands_Play fuel script_0).bind fun r3 =>
  (bif (r3.2.2 != (0 : Int)) then
  some (([], [], r3.2.2))
  else
  (label_Check (({ level := who_1.level, parts := who_1.parts } : Label))).bind fun r10 =>
  (bif (r10 != (0 : Int)) then
  some (([], [], r10))
  else
  forK (σ := (List Int)) (fun i s nx_ => hands_Seen_b29 script_0 who_1 r3 i s nx_) (fun s => hands_Seen_k21 who_1 r3 s) ((script_0.length : Int) - (0 : Int)).toNat (0 : Int) (([] : List Int))))

set_option maxRecDepth 100000 in
set_option maxHeartbeats 4000000 in
theorem hands_Seen_ok (w0 : World) (m : Snap) (l : List HI) (fuel : Nat) (uscript_0 : Value) (script_0 : List Stroke) (hscript_0 : RS rStroke m uscript_0 script_0) (who_1 : Label) (r : (List Int) × (List Leaf) × Int) (hr : hands_Seen fuel script_0 who_1 = some r) (w : World) (hc : cX w0 ⟨m, l⟩ w) :
    Calls Try.prog 27 [uscript_0, .agg #[.int .i64 who_1.level, .int .u32 (who_1.parts.toNat : Int)]].toArray w fun e w' => ∃ z0 : Value, ∃ z1 : Value, e = .returned (.tuple #[z0, z1, .int .i64 r.2.2]) ∧ cX w0 ⟨m, hownT 26 1 encI z0 r.1 :: hownT 42 4 Leaf.enc z1 r.2.1 :: l⟩ w' := by
  unfold hands_Seen at hr
  refine calls_of_Tr (N := 63) Try.func27 rfl hc rfl (Nat.le_of_ble_eq_true rfl) ?_
  refine Tr.seq ?_
  refine Tr.region_f (fun i => Nat.beq i 0) ?_
  refine W.e rfl rfl rfl rfl (by decide) (Ef.bx rfl (.t rfl) rfl) ?_
  rintro _ _ ⟨b1, rfl, rfl⟩
  refine ⟨.inl rfl, ?_⟩
  refine W.cast (m' := m) (l' := hcells b1 [_, _] 25 :: l) rfl rfl ?_
  refine W.q rfl rfl rfl rfl (by decide) (Yd.as rfl .c) ?_
  refine W.q rfl rfl rfl rfl (by decide) (Yd.as rfl .c) ?_
  refine W.q rfl rfl rfl rfl (by decide) (Yd.as rfl .c) ?_
  refine W.end ?_
  refine NX.sub (env' := [(0, _), (3, _)]) ⟨rfl, rfl, trivial⟩ ?_
  refine NX.then ?_
  refine Tr.seq ?_
  obtain ⟨r3, hr4, hr⟩ := bind_some hr
  refine Tr.region_f (fun i => Nat.beq i 1) ?_
  refine W.q rfl rfl rfl rfl (by decide) (Yd.mv rfl (.t rfl)) ?_
  refine W.e rfl rfl rfl rfl (by decide) (Ef.call (R := fun z x' => ∃ u5 : Value, ∃ u8 : Value, ∃ m6 : Snap, z = .tuple #[u5, u8, .int .i64 r3.2.2] ∧ x' = ⟨m6, hcells b1 [.int .i64 who_1.level, .int .u32 (who_1.parts.toNat : Int)] 25 :: l⟩ ∧ Sle m m6 ∧ RS rI m6 u5 r3.1 ∧ RS rLeaf m6 u8 r3.2.1) rfl Try.func24 rfl rfl (.cons (.t rfl) .nil) (fun w hw => (hands_Play_ok w0 _ _ fuel _ _ hscript_0 _ hr4 w hw).mono fun e w' ⟨u5, u8, m6, he, hm', hu7, hu9, hc'⟩ => ⟨_, _, he, ⟨u5, u8, m6, rfl, rfl, hm', hu7, hu9⟩, hc'⟩)) ?_
  rintro _ _ ⟨u5, u8, m6, rfl, rfl, hsm6, hu7, hu9⟩
  have hscript_0 := hscript_0.mono hsm6
  refine ⟨.inl rfl, ?_⟩
  refine W.cast (m' := m6) (l' := hcells b1 [_, _] 25 :: l) rfl rfl ?_
  refine W.q rfl rfl rfl rfl (by decide) (Yd.mv rfl (.t rfl)) ?_
  refine W.q rfl rfl rfl rfl (by decide) (Yd.ext rfl (.t rfl) rfl) ?_
  refine W.q rfl rfl rfl rfl (by decide) (Yd.ext rfl (.t rfl) rfl) ?_
  refine W.q rfl rfl rfl rfl (by decide) (Yd.ext rfl (.t rfl) rfl) ?_
  refine W.q rfl rfl rfl rfl (by decide) (Yd.as rfl (.t rfl)) ?_
  refine W.q rfl rfl rfl rfl (by decide) (Yd.as rfl (.t rfl)) ?_
  refine W.q rfl rfl rfl rfl (by decide) (Yd.as rfl (.t rfl)) ?_
  refine W.end ?_
  refine NX.sub (env' := [(0, _), (3, _), (7, _), (8, _), (9, _)]) ⟨rfl, rfl, rfl, rfl, rfl, trivial⟩ ?_
  refine NX.then ?_
  refine Tr.seq ?_
  refine Tr.seq ?_
  refine Tr.region_f (fun _ => false) ?_
  refine W.q rfl rfl rfl rfl (by decide) (Yd.mv rfl (.t rfl)) ?_
  refine W.q rfl rfl rfl rfl (by decide) (Yd.neq rfl (.t rfl) .c) ?_
  refine W.end ?_
  refine NX.sub (env' := [(0, _), (3, _), (7, _), (8, _), (9, _), (23, _)]) ⟨rfl, rfl, rfl, rfl, rfl, rfl, trivial⟩ ?_
  refine NX.then ?_
  refine Tr.cond (.t rfl) (fun hb => ?_) (fun hb => ?_)
  · have hr := cond_t hb hr
    refine Tr.seq ?_
    refine Tr.region_f (fun _ => false) ?_
    refine W.q rfl rfl rfl rfl (by decide) (Yd.mv rfl (.t rfl)) ?_
    refine W.q rfl rfl rfl rfl (by decide) (Yd.as rfl .c) ?_
    refine W.q rfl rfl rfl rfl (by decide) (Yd.as rfl .c) ?_
    refine W.q rfl rfl rfl rfl (by decide) (Yd.as rfl (.t rfl)) ?_
    refine W.end ?_
    refine NX.sub (env' := [(4, _), (5, _), (6, _)]) ⟨rfl, rfl, rfl, trivial⟩ ?_
    refine NX.drop (l' := l) (.cons _ (.refl _)) ?_
    refine NX.then ?_
    refine Tr.ret' (RT.then ?_)
    refine res3 rfl rfl rfl rfl ?_
    intro w hc
    cases hr
    exact ⟨_, _, rfl, (cX_le (x := ⟨m, _⟩) ⟨hsm6, [], rfl⟩ (cX_nil (cX_nil hc)))⟩
  · have hr := cond_f hb hr
    refine Tr.skip' ?_
    refine NX.then ?_
    refine Tr.seq ?_
    refine Tr.seq ?_
    obtain ⟨r10, hr11, hr⟩ := bind_some hr
    refine Tr.region_f (fun _ => false) ?_
    refine W.q rfl rfl rfl rfl (by decide) (Yd.ldBs (pos := 0) (us := [_, _]) rfl rfl rfl rfl ON25 US25 SZ25 (.t rfl)) ?_
    refine W.q rfl rfl rfl rfl (by decide) (Yd.call (v := .int .i64 r10) rfl Try.func32 rfl rfl (.cons (.t rfl) .nil) (fun x' hx w hw => label_Check_ok w0 x'.m x'.l (({ level := who_1.level, parts := who_1.parts } : Label)) _ hr11 w hw)) ?_
    refine W.q rfl rfl rfl rfl (by decide) (Yd.as rfl (.t rfl)) ?_
    refine W.end ?_
    refine NX.sub (env' := [(0, _), (3, _), (7, _), (8, _), (10, _)]) ⟨rfl, rfl, rfl, rfl, rfl, trivial⟩ ?_
    refine NX.then ?_
    refine Tr.seq ?_
    refine Tr.region_f (fun _ => false) ?_
    refine W.q rfl rfl rfl rfl (by decide) (Yd.mv rfl (.t rfl)) ?_
    refine W.q rfl rfl rfl rfl (by decide) (Yd.neq rfl (.t rfl) .c) ?_
    refine W.end ?_
    refine NX.sub (env' := [(0, _), (3, _), (7, _), (8, _), (10, _), (28, _)]) ⟨rfl, rfl, rfl, rfl, rfl, rfl, trivial⟩ ?_
    refine NX.then ?_
    refine Tr.cond (.t rfl) (fun hb => ?_) (fun hb => ?_)
    · have hr := cond_t hb hr
      refine Tr.seq ?_
      refine Tr.region_f (fun _ => false) ?_
      refine W.q rfl rfl rfl rfl (by decide) (Yd.mv rfl (.t rfl)) ?_
      refine W.q rfl rfl rfl rfl (by decide) (Yd.as rfl .c) ?_
      refine W.q rfl rfl rfl rfl (by decide) (Yd.as rfl .c) ?_
      refine W.q rfl rfl rfl rfl (by decide) (Yd.as rfl (.t rfl)) ?_
      refine W.end ?_
      refine NX.sub (env' := [(4, _), (5, _), (6, _)]) ⟨rfl, rfl, rfl, trivial⟩ ?_
      refine NX.drop (l' := l) (.cons _ (.refl _)) ?_
      refine NX.then ?_
      refine Tr.ret' (RT.then ?_)
      refine res3 rfl rfl rfl rfl ?_
      intro w hc
      cases hr
      exact ⟨_, _, rfl, (cX_le (x := ⟨m, _⟩) ⟨hsm6, [], rfl⟩ (cX_nil (cX_nil hc)))⟩
    · have hr := cond_f hb hr
      refine Tr.skip' ?_
      refine NX.then ?_
      refine Tr.seq ?_
      refine Tr.region_f (fun _ => false) ?_
      refine W.q rfl rfl rfl rfl (by decide) (Yd.as rfl .c) ?_
      refine W.end ?_
      refine NX.sub (env' := [(0, _), (3, _), (7, _), (8, _), (11, _)]) ⟨rfl, rfl, rfl, rfl, rfl, trivial⟩ ?_
      refine NX.then ?_
      refine Tr.seq ?_
      refine Tr.seq ?_
      refine Tr.region_f (fun _ => false) ?_
      refine W.q rfl rfl rfl rfl (by decide) (Yd.mv rfl (.t rfl)) ?_
      refine W.q rfl rfl rfl rfl (by decide) (Yd.lenR hscript_0 rfl Try.underlying50 (.t rfl)) ?_
      refine W.q rfl rfl rfl rfl (by decide) (Yd.mv rfl .c) ?_
      refine W.end ?_
      refine NX.sub (env' := [(3, _), (7, _), (8, _), (11, _), (30, _), (31, _), (32, _)]) ⟨rfl, rfl, rfl, rfl, rfl, rfl, rfl, trivial⟩ ?_
      refine NX.then ?_
      refine Tr.addnil 26 1 ?_
      refine Tr.join (S := fun env x => ∃ l19 : List Int, ∃ v20 : Value, env = [(3, bp b1 0), (8, u8), (11, v20)] ∧ x = ⟨m6, hownT 26 1 encI v20 l19 :: hcells b1 [.int .i64 who_1.level, .int .u32 (who_1.parts.toNat : Int)] 25 :: l⟩ ∧ hands_Seen_k21 who_1 r3 l19 = some r) ?_ (fun hk22 => ?_)
      · rintro _ _ ⟨l19, v20, rfl, rfl, hr⟩
        unfold hands_Seen_k21 at hr
        try dsimp only at hr
        refine NX.then ?_
        refine Tr.seq ?_
        obtain ⟨r23, hr24, hr⟩ := bind_some hr
        refine Tr.region_f (fun i => Nat.beq i 2) ?_
        refine W.q rfl rfl rfl rfl (by decide) (Yd.mv rfl (.t rfl)) ?_
        refine W.q rfl rfl rfl rfl (by decide) (Yd.ldBs (pos := 1) (us := [_, _]) rfl rfl rfl rfl ON25 US25 SZ25 (.t rfl)) ?_
        refine W.e rfl rfl rfl rfl (by decide) (Ef.call (R := fun z x' => ∃ v25 : Value, z = .tuple #[v25, .int .i64 r23.2] ∧ x' = ⟨m6, hownT 42 4 Leaf.enc v25 r23.1 :: hownT 26 1 encI v20 l19 :: hcells b1 [.int .i64 who_1.level, .int .u32 (who_1.parts.toNat : Int)] 25 :: l⟩) rfl Try.func12 rfl rfl (.cons (.t rfl) (.cons (.t rfl) .nil)) (fun w hw => (page_View_ok w0 _ _ _ _ hu9 (({ level := who_1.level, parts := who_1.parts } : Label)) _ hr24 w hw).mono fun e w' ⟨v25, he, hc'⟩ => ⟨_, _, he, ⟨v25, rfl, rfl⟩, hc'⟩)) ?_
        rintro _ _ ⟨v25, rfl, rfl⟩
        refine ⟨.inl rfl, ?_⟩
        refine W.cast (m' := m6) (l' := hownT 42 4 Leaf.enc v25 _ :: hownT 26 1 encI v20 _ :: hcells b1 [_, _] 25 :: l) rfl rfl ?_
        refine W.q rfl rfl rfl rfl (by decide) (Yd.mv rfl (.t rfl)) ?_
        refine W.q rfl rfl rfl rfl (by decide) (Yd.ext rfl (.t rfl) rfl) ?_
        refine W.q rfl rfl rfl rfl (by decide) (Yd.ext rfl (.t rfl) rfl) ?_
        refine W.q rfl rfl rfl rfl (by decide) (Yd.as rfl (.t rfl)) ?_
        refine W.q rfl rfl rfl rfl (by decide) (Yd.as rfl (.t rfl)) ?_
        refine W.end ?_
        refine NX.sub (env' := [(11, _), (14, _)]) ⟨rfl, rfl, trivial⟩ ?_
        refine NX.drop (l' := hownT 42 4 Leaf.enc v25 _ :: hownT 26 1 encI v20 _ :: l) (.cons_cons _ (.cons_cons _ (.cons _ (.refl _)))) ?_
        refine NX.then ?_
        refine Tr.seq ?_
        refine Tr.region_f (fun _ => false) ?_
        refine W.q rfl rfl rfl rfl (by decide) (Yd.mv rfl (.t rfl)) ?_
        refine W.q rfl rfl rfl rfl (by decide) (Yd.mv rfl (.t rfl)) ?_
        refine W.q rfl rfl rfl rfl (by decide) (Yd.as rfl (.t rfl)) ?_
        refine W.q rfl rfl rfl rfl (by decide) (Yd.as rfl (.t rfl)) ?_
        refine W.q rfl rfl rfl rfl (by decide) (Yd.as rfl .c) ?_
        refine W.end ?_
        refine NX.sub (env' := [(4, _), (5, _), (6, _)]) ⟨rfl, rfl, rfl, trivial⟩ ?_
        refine NX.then ?_
        refine Tr.ret' ?_
        refine res3 rfl rfl rfl rfl ?_
        intro w hc
        cases hr
        replace hc := cX_front (p := 1) hc rfl
        replace hc : cX w0 ⟨m6, hownT 26 1 encI v20 _ :: hownT 42 4 Leaf.enc v25 _ :: l⟩ w := hc
        exact ⟨_, _, rfl, (cX_le (x := ⟨m, _⟩) ⟨hsm6, [], rfl⟩ hc)⟩
      have hlen27 := (hscript_0).2.1
      refine Tr.block ?_
      refine Tr.sub (env' := [(3, _), (7, _), (8, _), (11, _), (30, _), (31, _), (32, _)]) ⟨rfl, rfl, rfl, rfl, rfl, rfl, rfl, trivial⟩ ?_
      refine Tr.loop (S := fun n (z : Int × (List Int)) env x => match z with | (t_28, l17) => ∃ v18 : Value, env = [(3, bp b1 0), (7, u5), (8, u8), (11, v18), (30, uscript_0), (31, .int .i64 ((script_0.length : Int))), (32, .int .i64 t_28)] ∧ x = ⟨m6, hownT 26 1 encI v18 l17 :: hcells b1 [.int .i64 who_1.level, .int .u32 (who_1.parts.toNat : Int)] 25 :: l⟩ ∧ n = ((script_0.length : Int) - t_28).toNat ∧ 0 ≤ t_28 ∧ forK (σ := (List Int)) (fun i s nx_ => hands_Seen_b29 script_0 who_1 r3 i s nx_) (fun s => hands_Seen_k21 who_1 r3 s) n t_28 l17 = some r) _ ((0 : Int), ([] : List Int)) ⟨_, rfl, rfl, rfl, (by omega), hr⟩ ?_
      rintro n31 ⟨t_28, l17⟩ env x ⟨v18, rfl, rfl, hnt_28, h0t_28, hr⟩
      cases n31 with
      | zero =>
        simp only [forK] at hr
        refine Tr.seq ?_
        refine Tr.region_f (fun _ => false) ?_
        refine W.q rfl rfl rfl rfl (by decide) (Yd.lss rfl (.t rfl) (.t rfl)) ?_
        refine W.end ?_
        refine NX.sub (env' := [(3, _), (7, _), (8, _), (11, _), (30, _), (31, _), (32, _), (33, _)]) ⟨rfl, rfl, rfl, rfl, rfl, rfl, rfl, rfl, trivial⟩ ?_
        refine NX.then ?_
        refine Tr.seq ?_
        refine Tr.cond (.t rfl) (fun hb => ?_) (fun hb => ?_)
        · exact absurd (hb.symm.trans (fr_end hnt_28)) (by decide)
        ·
          refine Tr.exit' (EX.then (EX.then (EX.block ?_)))
          refine NX.sub (env' := [(3, _), (8, _), (11, _)]) ⟨rfl, rfl, rfl, trivial⟩ ?_
          exact hk22 _ _ ⟨_, _, rfl, rfl, hr⟩
      | succ n31 =>
        obtain ⟨nx30, hnx30, hr⟩ := forK_succ hr
        try dsimp only at hr
        unfold hands_Seen_b29 at hr
        try dsimp only at hr
        have hltt_28 := fr_bnd hnt_28
        refine Tr.seq ?_
        refine Tr.region_f (fun _ => false) ?_
        refine W.q rfl rfl rfl rfl (by decide) (Yd.lss rfl (.t rfl) (.t rfl)) ?_
        refine W.end ?_
        refine NX.sub (env' := [(3, _), (7, _), (8, _), (11, _), (30, _), (31, _), (32, _), (33, _)]) ⟨rfl, rfl, rfl, rfl, rfl, rfl, rfl, rfl, trivial⟩ ?_
        refine NX.then ?_
        refine Tr.seq ?_
        refine Tr.cond (.t rfl) (fun hb => ?_) (fun hb => ?_)
        rotate_left
        · exact absurd (hb.symm.trans (fr_go hnt_28)) (by decide)
        ·
          refine Tr.skip' ?_
          refine NX.then ?_
          refine Tr.seq ?_
          refine Tr.block ?_
          refine Tr.seq ?_
          refine Tr.addnil 3 1 ?_
          refine Tr.cast (m' := m6) (l' := hownT 3 1 encI (.slice none 0 0) (([] : List Int)) :: hownT 26 1 encI v18 l17 :: hcells b1 [.int .i64 who_1.level, .int .u32 (who_1.parts.toNat : Int)] 25 :: l) rfl rfl ?_
          obtain ⟨y33, hy34, hr⟩ := bind_some hr
          refine Tr.region_f (fun i => Nat.beq i 3 || Nat.beq i 5) ?_
          refine W.q rfl rfl rfl rfl (by decide) (Yd.mv rfl (.t rfl)) ?_
          refine W.q rfl rfl rfl rfl (by decide) (Yd.idxR hscript_0 hy34 rfl Try.underlying50 SZ47 (.t rfl) (.t rfl)) ?_
          obtain ⟨_, ⟨u35, rfl, hu36⟩, hat37⟩ := RS.el hscript_0 hy34
          refine W.q rfl rfl rfl rfl (by decide) (Yd.ldRs hat37 (.refl _) rfl ON47 US47 SZ47 rfl (.t rfl)) ?_
          refine W.e rfl rfl rfl rfl (by decide) (Ef.al rfl ZR47 rfl) ?_
          rintro _ _ ⟨b38, rfl, rfl⟩
          refine ⟨.inl rfl, ?_⟩
          refine W.cast (m' := m6) (l' := hcells b38 [_, _, _, _, _] 47 :: hownT 3 1 encI (.slice none 0 0) (([] : List Int)) :: hownT 26 1 encI v18 _ :: hcells b1 [_, _] 25 :: l) rfl rfl ?_
          refine W.q rfl rfl rfl rfl (by decide) (Yd.as rfl (.t rfl)) ?_
          refine W.s rfl rfl rfl rfl (Ef.stBs (pos := 0) (us := [.int .i64 y33.kind, .int .i64 y33.who.level, .int .u32 (y33.who.parts.toNat : Int), u35, .int .i64 y33.text]) (cs' := [_, _, _, _, _]) (.cons (On.lit rfl) (.cons (On.lit rfl) (.cons (On.lit rfl) (.cons (On.ro hu36) (.cons (On.lit rfl) .nil))))) rfl rfl (.t rfl) (.t rfl) SZ47 rfl rfl (Nat.le_of_ble_eq_true rfl) rfl) ?_
          rintro _ _ ⟨rfl, rfl⟩
          refine ⟨.inl rfl, ?_⟩
          refine W.cast (m' := m6) (l' := hcells b38 [_, _, _, _, _] 47 :: hownT 3 1 encI (.slice none 0 0) (([] : List Int)) :: hownT 26 1 encI v18 _ :: hcells b1 [_, _] 25 :: l) rfl rfl ?_
          refine W.end ?_
          refine NX.sub (env' := [(3, _), (7, _), (8, _), (11, _), (30, _), (31, _), (32, _), (13, _), (12, _)]) ⟨rfl, rfl, rfl, rfl, rfl, rfl, rfl, rfl, rfl, trivial⟩ ?_
          refine NX.drop (l' := hcells b38 [_, _, _, _, _] 47 :: hownT 26 1 encI v18 _ :: hcells b1 [_, _] 25 :: l) (.cons_cons _ (.cons _ (.cons_cons _ (.cons_cons _ (.refl _))))) ?_
          refine NX.then ?_
          refine Tr.seq ?_
          obtain ⟨r40, hr41, hr⟩ := bind_some hr
          obtain ⟨ha42, hr⟩ := guard_some hr
          refine Tr.region_f (fun _ => false) ?_
          refine W.q rfl rfl rfl rfl (by decide) (Yd.fldB rfl Try.underlying47 rfl SZ25 rfl (.t rfl)) ?_
          refine W.q rfl rfl rfl rfl (by decide) (Yd.ldBs (pos := 0) (us := [_, _]) rfl rfl rfl rfl ON25 US25 SZ25 (.t rfl)) ?_
          refine W.q rfl rfl rfl rfl (by decide) (Yd.call (v := .int .i64 r40) rfl Try.func32 rfl rfl (.cons (.t rfl) .nil) (fun x' hx w hw => label_Check_ok w0 x'.m x'.l (({ level := y33.who.level, parts := y33.who.parts } : Label)) _ hr41 w hw)) ?_
          refine W.q rfl rfl rfl rfl (by decide) (Yd.eql rfl (.t rfl) .c) ?_
          refine W.q rfl rfl rfl rfl (by decide) (Yd.mv rfl (.t rfl)) ?_
          refine W.g rfl rfl rfl rfl rfl (.t rfl _) rfl (by decide) (fun hG => Yd.fldB rfl Try.underlying47 rfl SZ25 rfl (.t rfl)) ?_
          refine W.g rfl rfl rfl rfl rfl (.t rfl _) rfl (by decide) (fun hG => Yd.ldBs (pos := 0) (us := [_, _]) rfl rfl rfl rfl ON25 US25 SZ25 (.g rfl hG)) ?_
          refine W.g rfl rfl rfl rfl rfl (.t rfl _) rfl (by decide) (fun hG => Yd.ldBs (pos := 2) (us := [_, _]) rfl rfl rfl rfl ON25 US25 SZ25 (.t rfl)) ?_
          refine W.g rfl rfl rfl rfl rfl (.t rfl _) rfl (by decide) (fun hG => Yd.call (v := .bool ((((label_Least (({ level := y33.who.level, parts := y33.who.parts } : Label)) (({ level := who_1.level, parts := who_1.parts } : Label))).getD false)))) rfl Try.func33 rfl rfl (.cons (.g rfl hG) (.cons (.g rfl hG) .nil)) (fun x' hx w hw => label_Least_ok w0 x'.m x'.l (({ level := y33.who.level, parts := y33.who.parts } : Label)) (({ level := who_1.level, parts := who_1.parts } : Label)) _ (gd_get (d := false) ha42 hG) w hw)) ?_
          refine W.q rfl rfl rfl rfl (by decide) (Yd.and rfl (.t rfl) .c rfl rfl) ?_
          refine W.end ?_
          refine NX.sub (env' := [(3, _), (7, _), (8, _), (11, _), (30, _), (31, _), (32, _), (12, _), (46, _)]) ⟨rfl, rfl, rfl, rfl, rfl, rfl, rfl, rfl, rfl, trivial⟩ ?_
          refine NX.drop (l' := hownT 26 1 encI v18 _ :: hcells b1 [_, _] 25 :: l) (.cons _ (.cons_cons _ (.cons_cons _ (.refl _)))) ?_
          refine NX.then ?_
          refine Tr.cond (.t rfl) (fun hb => ?_) (fun hb => ?_)
          · have hr := cond_t hb hr
            obtain ⟨y43, hy44, hr⟩ := bind_some hr
            obtain ⟨hq48, hr⟩ := guard_some hr; replace hq48 := of_decide_eq_true hq48
            refine Tr.region_f (fun i => Nat.beq i 5 || Nat.beq i 6) ?_
            refine W.q rfl rfl rfl rfl (by decide) (Yd.mv rfl (.t rfl)) ?_
            refine W.q rfl rfl rfl rfl (by decide) (Yd.mv rfl (.t rfl)) ?_
            refine W.q rfl rfl rfl rfl (by decide) (Yd.mv rfl (.t rfl)) ?_
            refine W.q rfl rfl rfl rfl (by decide) (Yd.idxR hu7 hy44 rfl Try.underlying51 SZ26 (.t rfl) (.t rfl)) ?_
            refine W.q rfl rfl rfl rfl (by decide) (Yd.ldF hu7 (.refl _) hy44 rfl rfl ON26 (.t rfl)) ?_
            refine W.e rfl rfl rfl rfl (by decide) (Ef.bsT (enc := encI) (vs := [_]) (ys := [y43]) (fun _ => rfl) IF26 rfl Try.underlying51 (by decide) rfl (.cons (.t rfl) .nil) rfl rfl (by decide)) ?_
            rintro v45 _ rfl
            refine ⟨.inl rfl, ?_⟩
            refine W.cast (m' := m6) (l' := hownT 26 1 encI v45 _ :: hownT 26 1 encI v18 _ :: hcells b1 [_, _] 25 :: l) rfl rfl ?_
            refine W.e rfl rfl rfl rfl (by decide) (Ef.apI (pos := 1) (enc := encI) (xs := l17) (ys := ([y43] : List Int)) (fun _ => rfl) IF26 rfl rfl Try.underlying51 rfl (by decide) (.t rfl) (.t rfl) (Src.own (pos := 0) rfl) (fun _ => rfl) (by omega) (by omega)) ?_
            rintro v47 _ rfl
            refine ⟨.inl rfl, ?_⟩
            refine W.cast (m' := m6) (l' := hownT 26 1 encI v45 _ :: hownT 26 1 encI v47 _ :: hcells b1 [_, _] 25 :: l) rfl rfl ?_
            refine W.q rfl rfl rfl rfl (by decide) (Yd.as rfl (.t rfl)) ?_
            refine W.end ?_
            refine NX.sub (env' := [(3, _), (7, _), (8, _), (11, _), (30, _), (31, _), (32, _)]) ⟨rfl, rfl, rfl, rfl, rfl, rfl, rfl, trivial⟩ ?_
            refine NX.drop (l' := hownT 26 1 encI v47 _ :: hcells b1 [_, _] 25 :: l) (.cons _ (.cons_cons _ (.cons_cons _ (.refl _)))) ?_
            refine NX.block ?_
            refine NX.then ?_
            refine Tr.region_f (fun _ => false) ?_
            refine W.q rfl rfl rfl rfl (by decide) (Yd.add rfl (.t rfl) .c) ?_
            refine W.q rfl rfl rfl rfl (by decide) (Yd.mv rfl (.t rfl)) ?_
            refine W.end ?_
            refine NX.sub (env' := [(3, _), (7, _), (8, _), (11, _), (30, _), (31, _), (32, _)]) ⟨rfl, rfl, rfl, rfl, rfl, rfl, rfl, trivial⟩ ?_
            refine NX.sub (env' := [(3, _), (7, _), (8, _), (11, _), (30, _), (31, _), (32, _)]) ⟨rfl, rfl, rfl, rfl, rfl, rfl, rfl, trivial⟩ ?_
            have hw := w64_id (n := t_28 + 1) (by omega) (by omega)
            exact NX.again n31 (t_28 + 1, (l17 ++ ([y43] : List Int))) (Nat.lt_succ_self _) ⟨_, (by rw [hw] <;> rfl), rfl, (fr_dec hnt_28), (by omega), ((hnx30 _).symm.trans hr)⟩
          · have hr := cond_f hb hr
            refine Tr.skip' ?_
            refine NX.block ?_
            refine NX.then ?_
            refine Tr.region_f (fun _ => false) ?_
            refine W.q rfl rfl rfl rfl (by decide) (Yd.add rfl (.t rfl) .c) ?_
            refine W.q rfl rfl rfl rfl (by decide) (Yd.mv rfl (.t rfl)) ?_
            refine W.end ?_
            refine NX.sub (env' := [(3, _), (7, _), (8, _), (11, _), (30, _), (31, _), (32, _)]) ⟨rfl, rfl, rfl, rfl, rfl, rfl, rfl, trivial⟩ ?_
            refine NX.sub (env' := [(3, _), (7, _), (8, _), (11, _), (30, _), (31, _), (32, _)]) ⟨rfl, rfl, rfl, rfl, rfl, rfl, rfl, trivial⟩ ?_
            have hw := w64_id (n := t_28 + 1) (by omega) (by omega)
            exact NX.again n31 (t_28 + 1, l17) (Nat.lt_succ_self _) ⟨_, (by rw [hw] <;> rfl), rfl, (fr_dec hnt_28), (by omega), ((hnx30 _).symm.trans hr)⟩

def syllogistlaw_HandsSees_k29 (who_1 : Label) (fuel : Nat) (r3 : (List Int) × (List Leaf) × Int) (l25 : List Stroke) : Option (Bool) :=
  (syllogistref_Strokes fuel l25).bind fun r33 =>
  bif (!((r3.2.2 == (0 : Int)) == true) || (syllogistref_Codes r3.1 r33.1).isSome) then
  (bif (((r3.2.2 == (0 : Int)) && (((syllogistref_Codes r3.1 r33.1).getD false))) == true) then
  (syllogistref_View fuel r33.2 (({ level := who_1.level, parts := who_1.parts } : Label))).bind fun r42 =>
  (syllogistref_Leaves r3.2.1 r42).bind fun r46 =>
  some ((((r3.2.2 == (0 : Int)) && (((syllogistref_Codes r3.1 r33.1).getD false))) && r46))
  else
  some ((((r3.2.2 == (0 : Int)) && (((syllogistref_Codes r3.1 r33.1).getD false))) && false))) else none

def syllogistlaw_HandsSees_b50 (script_0 : List Stroke) (who_1 : Label) (t_49 : Int) (l21 : List Stroke) (nx51 : (List Stroke) → Option (Bool)) : Option (Bool) :=
  (geti script_0 t_49).bind fun y54 =>
  (syllogistref_LabelCheck (({ level := y54.who.level, parts := y54.who.parts } : Label))).bind fun r61 =>
  bif (!((r61 == (0 : Int)) == true) || (syllogistref_Below (({ level := y54.who.level, parts := y54.who.parts } : Label)) (({ level := who_1.level, parts := who_1.parts } : Label))).isSome) then
  (bif ((r61 == (0 : Int)) && (((syllogistref_Below (({ level := y54.who.level, parts := y54.who.parts } : Label)) (({ level := who_1.level, parts := who_1.parts } : Label))).getD false))) then
  bif decide (l21.length + (([({ kind := y54.kind, who := ({ level := y54.who.level, parts := y54.who.parts } : Label), path := y54.path, text := y54.text } : Stroke)] : List Stroke)).length ≤ 2513169434916) then
  nx51 (l21 ++ ([({ kind := y54.kind, who := ({ level := y54.who.level, parts := y54.who.parts } : Label), path := y54.path, text := y54.text } : Stroke)] : List Stroke)) else none
  else
  nx51 l21) else none

def syllogistlaw_HandsSees_k12 (script_0 : List Stroke) (who_1 : Label) (fuel : Nat) (r3 : (List Int) × (List Leaf) × Int) (x_11 : Int) : Option (Bool) :=
  (bif (x_11 != (0 : Int)) then
  some ((((r3.2.2 == x_11) && ((r3.1.length : Int) == (0 : Int))) && ((r3.2.1.length : Int) == (0 : Int))))
  else
  forK (σ := (List Stroke)) (fun i s nx_ => syllogistlaw_HandsSees_b50 script_0 who_1 i s nx_) (fun s => syllogistlaw_HandsSees_k29 who_1 fuel r3 s) ((script_0.length : Int) - (0 : Int)).toNat (0 : Int) (([] : List Stroke)))

def syllogistlaw_HandsSees (fuel : Nat) (script_0 : List Stroke) (who_1 : Label) : Option (Bool) :=
  (hands_Seen fuel script_0 (({ level := who_1.level, parts := who_1.parts } : Label))).bind fun r3 =>
  (syllogistref_LabelCheck (({ level := who_1.level, parts := who_1.parts } : Label))).bind fun r9 =>
  (bif (decide ((script_0.length : Int) > (30 : Int))) then
  syllogistlaw_HandsSees_k12 script_0 who_1 fuel r3 ((1 : Int))
  else
  syllogistlaw_HandsSees_k12 script_0 who_1 fuel r3 r9)

set_option maxRecDepth 100000 in
set_option maxHeartbeats 4000000 in
theorem syllogistlaw_HandsSees_ok (w0 : World) (m : Snap) (l : List HI) (fuel : Nat) (uscript_0 : Value) (script_0 : List Stroke) (hscript_0 : RS rStroke m uscript_0 script_0) (who_1 : Label) (r : Bool) (hr : syllogistlaw_HandsSees fuel script_0 who_1 = some r) (w : World) (hc : cX w0 ⟨m, l⟩ w) :
    Calls Try.prog 8 [uscript_0, .agg #[.int .i64 who_1.level, .int .u32 (who_1.parts.toNat : Int)]].toArray w fun e w' => e = .returned (.bool r) ∧ cX w0 ⟨m, l⟩ w' := by
  unfold syllogistlaw_HandsSees at hr
  refine calls_of_Tr (N := 81) Try.func8 rfl hc rfl (Nat.le_of_ble_eq_true rfl) ?_
  refine Tr.seq ?_
  refine Tr.region_f (fun i => Nat.beq i 0) ?_
  refine W.e rfl rfl rfl rfl (by decide) (Ef.bx rfl (.t rfl) rfl) ?_
  rintro _ _ ⟨b1, rfl, rfl⟩
  refine ⟨.inl rfl, ?_⟩
  refine W.cast (m' := m) (l' := hcells b1 [_, _] 25 :: l) rfl rfl ?_
  refine W.q rfl rfl rfl rfl (by decide) (Yd.as rfl .c) ?_
  refine W.end ?_
  refine NX.sub (env' := [(0, _), (3, _)]) ⟨rfl, rfl, trivial⟩ ?_
  refine NX.then ?_
  refine Tr.seq ?_
  obtain ⟨r3, hr4, hr⟩ := bind_some hr
  refine Tr.region_f (fun i => Nat.beq i 2) ?_
  refine W.q rfl rfl rfl rfl (by decide) (Yd.mv rfl (.t rfl)) ?_
  refine W.q rfl rfl rfl rfl (by decide) (Yd.ldBs (pos := 0) (us := [_, _]) rfl rfl rfl rfl ON25 US25 SZ25 (.t rfl)) ?_
  refine W.e rfl rfl rfl rfl (by decide) (Ef.call (R := fun z x' => ∃ v5 : Value, ∃ v7 : Value, z = .tuple #[v5, v7, .int .i64 r3.2.2] ∧ x' = ⟨m, hownT 26 1 encI v5 r3.1 :: hownT 42 4 Leaf.enc v7 r3.2.1 :: hcells b1 [.int .i64 who_1.level, .int .u32 (who_1.parts.toNat : Int)] 25 :: l⟩) rfl Try.func27 rfl rfl (.cons (.t rfl) (.cons (.t rfl) .nil)) (fun w hw => (hands_Seen_ok w0 _ _ fuel _ _ hscript_0 (({ level := who_1.level, parts := who_1.parts } : Label)) _ hr4 w hw).mono fun e w' ⟨v5, v7, he, hc'⟩ => ⟨_, _, he, ⟨v5, v7, rfl, rfl⟩, hc'⟩)) ?_
  rintro _ _ ⟨v5, v7, rfl, rfl⟩
  refine ⟨.inl rfl, ?_⟩
  refine W.cast (m' := m) (l' := hownT 26 1 encI v5 _ :: hownT 42 4 Leaf.enc v7 _ :: hcells b1 [_, _] 25 :: l) rfl rfl ?_
  refine W.q rfl rfl rfl rfl (by decide) (Yd.mv rfl (.t rfl)) ?_
  refine W.q rfl rfl rfl rfl (by decide) (Yd.ext rfl (.t rfl) rfl) ?_
  refine W.q rfl rfl rfl rfl (by decide) (Yd.ext rfl (.t rfl) rfl) ?_
  refine W.q rfl rfl rfl rfl (by decide) (Yd.ext rfl (.t rfl) rfl) ?_
  refine W.q rfl rfl rfl rfl (by decide) (Yd.as rfl (.t rfl)) ?_
  refine W.q rfl rfl rfl rfl (by decide) (Yd.as rfl (.t rfl)) ?_
  refine W.q rfl rfl rfl rfl (by decide) (Yd.as rfl (.t rfl)) ?_
  refine W.end ?_
  refine NX.sub (env' := [(0, _), (3, _), (5, _), (6, _), (7, _)]) ⟨rfl, rfl, rfl, rfl, rfl, trivial⟩ ?_
  refine NX.then ?_
  refine Tr.seq ?_
  obtain ⟨r9, hr10, hr⟩ := bind_some hr
  refine Tr.region_f (fun _ => false) ?_
  refine W.q rfl rfl rfl rfl (by decide) (Yd.ldBs (pos := 2) (us := [_, _]) rfl rfl rfl rfl ON25 US25 SZ25 (.t rfl)) ?_
  refine W.q rfl rfl rfl rfl (by decide) (Yd.call (v := .int .i64 r9) rfl Try.func28 rfl rfl (.cons (.t rfl) .nil) (fun x' hx w hw => syllogistref_LabelCheck_ok w0 x'.m x'.l (({ level := who_1.level, parts := who_1.parts } : Label)) _ hr10 w hw)) ?_
  refine W.q rfl rfl rfl rfl (by decide) (Yd.as rfl (.t rfl)) ?_
  refine W.end ?_
  refine NX.sub (env' := [(0, _), (3, _), (5, _), (6, _), (7, _), (8, _)]) ⟨rfl, rfl, rfl, rfl, rfl, rfl, trivial⟩ ?_
  refine NX.then ?_
  refine Tr.seq ?_
  refine Tr.seq ?_
  refine Tr.region_f (fun _ => false) ?_
  refine W.q rfl rfl rfl rfl (by decide) (Yd.mv rfl (.t rfl)) ?_
  refine W.q rfl rfl rfl rfl (by decide) (Yd.lenR hscript_0 rfl Try.underlying50 (.t rfl)) ?_
  refine W.q rfl rfl rfl rfl (by decide) (Yd.gtr rfl (.t rfl) .c) ?_
  refine W.end ?_
  refine NX.sub (env' := [(0, _), (3, _), (5, _), (6, _), (7, _), (8, _), (25, _)]) ⟨rfl, rfl, rfl, rfl, rfl, rfl, rfl, trivial⟩ ?_
  refine NX.then ?_
  refine Tr.join (S := fun env x => ∃ x_11 : Int, env = [(0, uscript_0), (3, bp b1 0), (5, v5), (6, v7), (7, .int .i64 r3.2.2), (8, .int .i64 x_11)] ∧ x = ⟨m, hownT 26 1 encI v5 r3.1 :: hownT 42 4 Leaf.enc v7 r3.2.1 :: hcells b1 [.int .i64 who_1.level, .int .u32 (who_1.parts.toNat : Int)] 25 :: l⟩ ∧ syllogistlaw_HandsSees_k12 script_0 who_1 fuel r3 x_11 = some r) ?_ (fun hk13 => ?_)
  · rintro _ _ ⟨x_11, rfl, rfl, hr⟩
    unfold syllogistlaw_HandsSees_k12 at hr
    try dsimp only at hr
    refine NX.then ?_
    refine Tr.seq ?_
    refine Tr.seq ?_
    refine Tr.region_f (fun _ => false) ?_
    refine W.q rfl rfl rfl rfl (by decide) (Yd.mv rfl (.t rfl)) ?_
    refine W.q rfl rfl rfl rfl (by decide) (Yd.neq rfl (.t rfl) .c) ?_
    refine W.end ?_
    refine NX.sub (env' := [(0, _), (3, _), (5, _), (6, _), (7, _), (8, _), (27, _)]) ⟨rfl, rfl, rfl, rfl, rfl, rfl, rfl, trivial⟩ ?_
    refine NX.then ?_
    refine Tr.cond (.t rfl) (fun hb => ?_) (fun hb => ?_)
    · have hr := cond_t hb hr
      refine Tr.seq ?_
      refine Tr.region_f (fun _ => false) ?_
      refine W.q rfl rfl rfl rfl (by decide) (Yd.mv rfl (.t rfl)) ?_
      refine W.q rfl rfl rfl rfl (by decide) (Yd.mv rfl (.t rfl)) ?_
      refine W.q rfl rfl rfl rfl (by decide) (Yd.eql rfl (.t rfl) (.t rfl)) ?_
      refine W.q rfl rfl rfl rfl (by decide) (Yd.mv rfl (.t rfl)) ?_
      refine W.g rfl rfl rfl rfl rfl (.t rfl _) rfl (by decide) (fun hG => Yd.mv rfl (.t rfl)) ?_
      refine W.g rfl rfl rfl rfl rfl (.t rfl _) rfl (by decide) (fun hG => Yd.lenO (p := 0) rfl rfl Try.underlying51 (.g rfl hG)) ?_
      refine W.g rfl rfl rfl rfl rfl (.t rfl _) rfl (by decide) (fun hG => Yd.eql rfl (.g rfl hG) .c) ?_
      refine W.q rfl rfl rfl rfl (by decide) (Yd.and rfl (.t rfl) .c rfl rfl) ?_
      refine W.q rfl rfl rfl rfl (by decide) (Yd.mv rfl (.t rfl)) ?_
      refine W.g rfl rfl rfl rfl rfl (.t rfl _) rfl (by decide) (fun hG => Yd.mv rfl (.t rfl)) ?_
      refine W.g rfl rfl rfl rfl rfl (.t rfl _) rfl (by decide) (fun hG => Yd.lenO (p := 1) rfl rfl Try.underlying22 (.g rfl hG)) ?_
      refine W.g rfl rfl rfl rfl rfl (.t rfl _) rfl (by decide) (fun hG => Yd.eql rfl (.g rfl hG) .c) ?_
      refine W.q rfl rfl rfl rfl (by decide) (Yd.and rfl (.t rfl) .c rfl rfl) ?_
      refine W.q rfl rfl rfl rfl (by decide) (Yd.as rfl (.t rfl)) ?_
      refine W.end ?_
      refine NX.sub (env' := [(4, _)]) ⟨rfl, trivial⟩ ?_
      refine NX.drop (l' := l) (.cons _ (.cons _ (.cons _ (.refl _)))) ?_
      refine NX.then ?_
      refine Tr.ret' (RT.then ?_)
      refine res1 rfl rfl ?_
      intro w hc
      cases hr
      exact ⟨rfl, hc⟩
    · have hr := cond_f hb hr
      refine Tr.skip' ?_
      refine NX.then ?_
      refine Tr.seq ?_
      refine Tr.region_f (fun _ => false) ?_
      refine W.q rfl rfl rfl rfl (by decide) (Yd.as rfl .c) ?_
      refine W.end ?_
      refine NX.sub (env' := [(0, _), (3, _), (5, _), (6, _), (7, _), (9, _)]) ⟨rfl, rfl, rfl, rfl, rfl, rfl, trivial⟩ ?_
      refine NX.then ?_
      refine Tr.seq ?_
      refine Tr.seq ?_
      refine Tr.region_f (fun _ => false) ?_
      refine W.q rfl rfl rfl rfl (by decide) (Yd.mv rfl (.t rfl)) ?_
      refine W.q rfl rfl rfl rfl (by decide) (Yd.lenR hscript_0 rfl Try.underlying50 (.t rfl)) ?_
      refine W.q rfl rfl rfl rfl (by decide) (Yd.mv rfl .c) ?_
      refine W.end ?_
      refine NX.sub (env' := [(3, _), (5, _), (6, _), (7, _), (9, _), (41, _), (42, _), (43, _)]) ⟨rfl, rfl, rfl, rfl, rfl, rfl, rfl, rfl, trivial⟩ ?_
      refine NX.then ?_
      refine Tr.addnil 47 5 ?_
      refine Tr.join (S := fun env x => ∃ l25 : List Stroke, ∃ v26 : Value, ∃ us27 : List Value, Rws rStroke m us27 l25 ∧ env = [(3, bp b1 0), (5, v5), (6, v7), (7, .int .i64 r3.2.2), (9, v26)] ∧ x = ⟨m, hown 47 5 v26 l25.length us27 :: hownT 26 1 encI v5 r3.1 :: hownT 42 4 Leaf.enc v7 r3.2.1 :: hcells b1 [.int .i64 who_1.level, .int .u32 (who_1.parts.toNat : Int)] 25 :: l⟩ ∧ syllogistlaw_HandsSees_k29 who_1 fuel r3 l25 = some r) ?_ (fun hk30 => ?_)
      · rintro _ _ ⟨l25, v26, us27, hw28, rfl, rfl, hr⟩
        unfold syllogistlaw_HandsSees_k29 at hr
        try dsimp only at hr
        refine NX.then ?_
        refine Tr.seq ?_
        refine Tr.freezeW rfl (pos := 0) hw28 rfl (fun m31 hsm31 hu32 => ?_)
        have hscript_0 := hscript_0.mono hsm31
        have hw28 := hw28.mono hsm31
        refine Tr.cast (m' := m31) (l' := hownT 26 1 encI v5 _ :: hownT 42 4 Leaf.enc v7 _ :: hcells b1 [_, _] 25 :: l) rfl rfl ?_
        obtain ⟨r33, hr34, hr⟩ := bind_some hr
        refine Tr.region_f (fun i => Nat.beq i 1) ?_
        refine W.q rfl rfl rfl rfl (by decide) (Yd.mv rfl (.t rfl)) ?_
        refine W.e rfl rfl rfl rfl (by decide) (Ef.call (R := fun z x' => ∃ u35 : Value, ∃ u38 : Value, ∃ m36 : Snap, z = .tuple #[u35, u38] ∧ x' = ⟨m36, hownT 26 1 encI v5 r3.1 :: hownT 42 4 Leaf.enc v7 r3.2.1 :: hcells b1 [.int .i64 who_1.level, .int .u32 (who_1.parts.toNat : Int)] 25 :: l⟩ ∧ Sle m31 m36 ∧ RS rI m36 u35 r33.1 ∧ RS rLeaf m36 u38 r33.2) rfl Try.func25 rfl rfl (.cons (.t rfl) .nil) (fun w hw => (syllogistref_Strokes_ok w0 _ _ fuel _ _ hu32 _ hr34 w hw).mono fun e w' ⟨u35, u38, m36, he, hm', hu37, hu39, hc'⟩ => ⟨_, _, he, ⟨u35, u38, m36, rfl, rfl, hm', hu37, hu39⟩, hc'⟩)) ?_
        rintro _ _ ⟨u35, u38, m36, rfl, rfl, hsm36, hu37, hu39⟩
        have hscript_0 := hscript_0.mono hsm36
        have hw28 := hw28.mono hsm36
        have hu32 := hu32.mono hsm36
        refine ⟨.inl rfl, ?_⟩
        refine W.cast (m' := m36) (l' := hownT 26 1 encI v5 _ :: hownT 42 4 Leaf.enc v7 _ :: hcells b1 [_, _] 25 :: l) rfl rfl ?_
        refine W.q rfl rfl rfl rfl (by decide) (Yd.mv rfl (.t rfl)) ?_
        refine W.q rfl rfl rfl rfl (by decide) (Yd.ext rfl (.t rfl) rfl) ?_
        refine W.q rfl rfl rfl rfl (by decide) (Yd.ext rfl (.t rfl) rfl) ?_
        refine W.q rfl rfl rfl rfl (by decide) (Yd.as rfl (.t rfl)) ?_
        refine W.q rfl rfl rfl rfl (by decide) (Yd.as rfl (.t rfl)) ?_
        refine W.end ?_
        refine NX.sub (env' := [(3, _), (5, _), (6, _), (7, _), (12, _), (13, _)]) ⟨rfl, rfl, rfl, rfl, rfl, rfl, trivial⟩ ?_
        refine NX.then ?_
        refine Tr.seq ?_
        obtain ⟨ha40, hr⟩ := guard_some hr
        refine Tr.region_f (fun i => Nat.beq i 11) ?_
        refine W.q rfl rfl rfl rfl (by decide) (Yd.mv rfl (.t rfl)) ?_
        refine W.q rfl rfl rfl rfl (by decide) (Yd.eql rfl (.t rfl) .c) ?_
        refine W.q rfl rfl rfl rfl (by decide) (Yd.mv rfl (.t rfl)) ?_
        refine W.g rfl rfl rfl rfl rfl (.t rfl _) rfl (by decide) (fun hG => Yd.mv rfl (.t rfl)) ?_
        refine W.g rfl rfl rfl rfl rfl (.t rfl _) rfl (by decide) (fun hG => Yd.mv rfl (.t rfl)) ?_
        refine W.g rfl rfl rfl rfl rfl (.t rfl _) rfl (by decide) (fun hG => Yd.call (v := .bool ((((syllogistref_Codes r3.1 r33.1).getD false)))) rfl Try.func26 rfl rfl (.cons (.g rfl hG) (.cons (.g rfl hG) .nil)) (by intro x' hx w hw; obtain ⟨p0, hp0⟩ := hx.at (p := 0) rfl; obtain ⟨m2, hm2, hc2, ⟨L2, hl1, hl2⟩, hback⟩ := cX_lend hw hp0 lone_own; have hL1 : RS rI m2 _ _ := RS_of_own hl1 hl2; exact (syllogistref_Codes_ok w0 m2 _ _ _ hL1 _ _ (hu37.mono (hx.1.trans hm2)) _ (gd_get (d := false) ha40 hG) w hc2).mono fun e w' ⟨he, hc'⟩ => ⟨he, (hback m2 _ _ w' (.refl _) hp0).2 hc'⟩)) ?_
        refine W.q rfl rfl rfl rfl (by decide) (Yd.and rfl (.t rfl) .c rfl rfl) ?_
        refine W.q rfl rfl rfl rfl (by decide) (Yd.mv rfl (.t rfl)) ?_
        refine W.g rfl rfl rfl rfl rfl (.t rfl _) rfl (by decide) (fun hG => Yd.mv rfl (.t rfl)) ?_
        refine W.g rfl rfl rfl rfl rfl (.t rfl _) rfl (by decide) (fun hG => Yd.mv rfl (.t rfl)) ?_
        refine W.g rfl rfl rfl rfl rfl (.t rfl _) rfl (by decide) (fun hG => Yd.ldBs (pos := 2) (us := [_, _]) rfl rfl rfl rfl ON25 US25 SZ25 (.t rfl)) ?_
        refine W.split (b := (((r3.2.2 == (0 : Int)) && (((syllogistref_Codes r3.1 r33.1).getD false))) == true)) (fun hb41 => ?_) (fun hb41 => ?_)
        · have hr := cond_t hb41 hr
          obtain ⟨r42, hr43, hr⟩ := bind_some hr
          obtain ⟨r46, hr47, hr⟩ := bind_some hr
          refine W.ge rfl rfl rfl rfl rfl (.t rfl _) hb41 rfl (by decide) (Ef.call (R := fun z x' => ∃ v44 : Value, z = v44 ∧ x' = ⟨m36, hownT 42 4 Leaf.enc v44 r42 :: hownT 26 1 encI v5 r3.1 :: hownT 42 4 Leaf.enc v7 r3.2.1 :: hcells b1 [.int .i64 who_1.level, .int .u32 (who_1.parts.toNat : Int)] 25 :: l⟩) rfl Try.func15 rfl rfl (.cons (.g rfl hb41) (.cons (.g rfl hb41) .nil)) (fun w hw => (syllogistref_View_ok w0 _ _ fuel _ _ hu39 (({ level := who_1.level, parts := who_1.parts } : Label)) _ hr43 w hw).mono fun e w' ⟨v44, he, hc'⟩ => ⟨_, _, he, ⟨v44, rfl, rfl⟩, hc'⟩)) ?_
          rintro v44 _ ⟨_, rfl, rfl⟩
          refine ⟨.inl rfl, ?_⟩
          refine W.cast (m' := m36) (l' := hownT 42 4 Leaf.enc v44 _ :: hownT 26 1 encI v5 _ :: hownT 42 4 Leaf.enc v7 _ :: hcells b1 [_, _] 25 :: l) rfl rfl ?_
          refine W.g rfl rfl rfl rfl rfl (.t rfl _) rfl (by decide) (fun hG => Yd.call (v := .bool r46) rfl Try.func14 rfl rfl (.cons (.g rfl hb41) (.cons (.t rfl) .nil)) (by intro x' hx w hw; obtain ⟨p0, p1, hp0, hp1⟩ := hx.at2 (a := 2) (b := 0) rfl rfl rfl; obtain ⟨m1, hm1, hc1, ⟨L1, hl0a, hl0b'⟩, hback1⟩ := cX_lend hw hp0 lone_own; obtain ⟨m2, hm2', hc2, ⟨L2, hl1a, hl1b⟩, hback2⟩ := cX_lend hc1 hp1 lone_own; have hm2 := hm1.trans hm2'; have hl0b : ∀ q ∈ L1, m2 q.1 = some q.2 := fun q hq => hm2' _ _ (hl0b' q hq); have hL1 : RS rLeaf m2 _ _ := RS_of_own hl0a hl0b; have hL2 : RS rLeaf m2 _ _ := RS_of_own hl1a hl1b; exact (syllogistref_Leaves_ok w0 m2 _ _ _ hL1 _ _ hL2 _ hr47 w hc2).mono fun e w' ⟨he, hc'⟩ => ⟨he, (hback1 m1 _ _ w' (.refl _) hp0).2 ((hback2 m2 _ _ w' (.refl _) hp1).2 hc')⟩)) ?_
          refine W.q rfl rfl rfl rfl (by decide) (Yd.and rfl (.t rfl) .c rfl rfl) ?_
          refine W.q rfl rfl rfl rfl (by decide) (Yd.as rfl (.t rfl)) ?_
          refine W.end ?_
          refine NX.sub (env' := [(4, _)]) ⟨rfl, trivial⟩ ?_
          refine NX.drop (l' := l) (.cons _ (.cons _ (.cons _ (.cons _ (.refl _))))) ?_
          refine NX.then ?_
          refine Tr.ret' ?_
          refine res1 rfl rfl ?_
          intro w hc
          cases hr
          exact ⟨rfl, (cX_le (x := ⟨m, _⟩) ⟨(hsm31.trans hsm36), [], rfl⟩ hc)⟩
        · have hr := cond_f hb41 hr
          refine W.gF rfl rfl rfl rfl (.t rfl _) hb41 rfl (by decide) (undef) ?_
          refine W.gF rfl rfl rfl rfl (.t rfl _) hb41 rfl (by decide) (.bool false) ?_
          refine W.q rfl rfl rfl rfl (by decide) (Yd.and rfl (.t rfl) .c rfl rfl) ?_
          refine W.q rfl rfl rfl rfl (by decide) (Yd.as rfl (.t rfl)) ?_
          refine W.end ?_
          refine NX.sub (env' := [(4, _)]) ⟨rfl, trivial⟩ ?_
          refine NX.drop (l' := l) (.cons _ (.cons _ (.cons _ (.refl _)))) ?_
          refine NX.then ?_
          refine Tr.ret' ?_
          refine res1 rfl rfl ?_
          intro w hc
          cases hr
          exact ⟨rfl, (cX_le (x := ⟨m, _⟩) ⟨(hsm31.trans hsm36), [], rfl⟩ hc)⟩
      have hlen48 := (hscript_0).2.1
      refine Tr.block ?_
      refine Tr.sub (env' := [(3, _), (5, _), (6, _), (7, _), (9, _), (41, _), (42, _), (43, _)]) ⟨rfl, rfl, rfl, rfl, rfl, rfl, rfl, rfl, trivial⟩ ?_
      refine Tr.loop (S := fun n (z : Int × (List Stroke)) env x => match z with | (t_49, l21) => ∃ v22 : Value, ∃ us23 : List Value, Rws rStroke m us23 l21 ∧ env = [(3, bp b1 0), (5, v5), (6, v7), (7, .int .i64 r3.2.2), (9, v22), (41, uscript_0), (42, .int .i64 ((script_0.length : Int))), (43, .int .i64 t_49)] ∧ x = ⟨m, hown 47 5 v22 l21.length us23 :: hownT 26 1 encI v5 r3.1 :: hownT 42 4 Leaf.enc v7 r3.2.1 :: hcells b1 [.int .i64 who_1.level, .int .u32 (who_1.parts.toNat : Int)] 25 :: l⟩ ∧ n = ((script_0.length : Int) - t_49).toNat ∧ 0 ≤ t_49 ∧ forK (σ := (List Stroke)) (fun i s nx_ => syllogistlaw_HandsSees_b50 script_0 who_1 i s nx_) (fun s => syllogistlaw_HandsSees_k29 who_1 fuel r3 s) n t_49 l21 = some r) _ ((0 : Int), ([] : List Stroke)) ⟨_, _, (Rws.nil _ _), rfl, rfl, rfl, (by omega), hr⟩ ?_
      rintro n52 ⟨t_49, l21⟩ env x ⟨v22, us23, hw24, rfl, rfl, hnt_49, h0t_49, hr⟩
      cases n52 with
      | zero =>
        simp only [forK] at hr
        refine Tr.seq ?_
        refine Tr.region_f (fun _ => false) ?_
        refine W.q rfl rfl rfl rfl (by decide) (Yd.lss rfl (.t rfl) (.t rfl)) ?_
        refine W.end ?_
        refine NX.sub (env' := [(3, _), (5, _), (6, _), (7, _), (9, _), (41, _), (42, _), (43, _), (44, _)]) ⟨rfl, rfl, rfl, rfl, rfl, rfl, rfl, rfl, rfl, trivial⟩ ?_
        refine NX.then ?_
        refine Tr.seq ?_
        refine Tr.cond (.t rfl) (fun hb => ?_) (fun hb => ?_)
        · exact absurd (hb.symm.trans (fr_end hnt_49)) (by decide)
        ·
          refine Tr.exit' (EX.then (EX.then (EX.block ?_)))
          refine NX.sub (env' := [(3, _), (5, _), (6, _), (7, _), (9, _)]) ⟨rfl, rfl, rfl, rfl, rfl, trivial⟩ ?_
          exact hk30 _ _ ⟨_, _, _, hw24, rfl, rfl, hr⟩
      | succ n52 =>
        obtain ⟨nx51, hnx51, hr⟩ := forK_succ hr
        try dsimp only at hr
        unfold syllogistlaw_HandsSees_b50 at hr
        try dsimp only at hr
        have hltt_49 := fr_bnd hnt_49
        refine Tr.seq ?_
        refine Tr.region_f (fun _ => false) ?_
        refine W.q rfl rfl rfl rfl (by decide) (Yd.lss rfl (.t rfl) (.t rfl)) ?_
        refine W.end ?_
        refine NX.sub (env' := [(3, _), (5, _), (6, _), (7, _), (9, _), (41, _), (42, _), (43, _), (44, _)]) ⟨rfl, rfl, rfl, rfl, rfl, rfl, rfl, rfl, rfl, trivial⟩ ?_
        refine NX.then ?_
        refine Tr.seq ?_
        refine Tr.cond (.t rfl) (fun hb => ?_) (fun hb => ?_)
        rotate_left
        · exact absurd (hb.symm.trans (fr_go hnt_49)) (by decide)
        ·
          refine Tr.skip' ?_
          refine NX.then ?_
          refine Tr.seq ?_
          refine Tr.block ?_
          refine Tr.seq ?_
          refine Tr.addnil 3 1 ?_
          refine Tr.cast (m' := m) (l' := hownT 3 1 encI (.slice none 0 0) (([] : List Int)) :: hown 47 5 v22 l21.length us23 :: hownT 26 1 encI v5 r3.1 :: hownT 42 4 Leaf.enc v7 r3.2.1 :: hcells b1 [.int .i64 who_1.level, .int .u32 (who_1.parts.toNat : Int)] 25 :: l) rfl rfl ?_
          obtain ⟨y54, hy55, hr⟩ := bind_some hr
          refine Tr.region_f (fun i => Nat.beq i 2 || Nat.beq i 3) ?_
          refine W.q rfl rfl rfl rfl (by decide) (Yd.idxR hscript_0 hy55 rfl Try.underlying50 SZ47 (.t rfl) (.t rfl)) ?_
          obtain ⟨_, ⟨u56, rfl, hu57⟩, hat58⟩ := RS.el hscript_0 hy55
          refine W.q rfl rfl rfl rfl (by decide) (Yd.ldRs hat58 (.refl _) rfl ON47 US47 SZ47 rfl (.t rfl)) ?_
          refine W.e rfl rfl rfl rfl (by decide) (Ef.al rfl ZR47 rfl) ?_
          rintro _ _ ⟨b59, rfl, rfl⟩
          refine ⟨.inl rfl, ?_⟩
          refine W.cast (m' := m) (l' := hcells b59 [_, _, _, _, _] 47 :: hownT 3 1 encI (.slice none 0 0) (([] : List Int)) :: hown 47 5 v22 _ _ :: hownT 26 1 encI v5 _ :: hownT 42 4 Leaf.enc v7 _ :: hcells b1 [_, _] 25 :: l) rfl rfl ?_
          refine W.s rfl rfl rfl rfl (Ef.stBs (pos := 0) (us := [.int .i64 y54.kind, .int .i64 y54.who.level, .int .u32 (y54.who.parts.toNat : Int), u56, .int .i64 y54.text]) (cs' := [_, _, _, _, _]) (.cons (On.lit rfl) (.cons (On.lit rfl) (.cons (On.lit rfl) (.cons (On.ro hu57) (.cons (On.lit rfl) .nil))))) rfl rfl (.t rfl) (.t rfl) SZ47 rfl rfl (Nat.le_of_ble_eq_true rfl) rfl) ?_
          rintro _ _ ⟨rfl, rfl⟩
          refine ⟨.inl rfl, ?_⟩
          refine W.cast (m' := m) (l' := hcells b59 [_, _, _, _, _] 47 :: hownT 3 1 encI (.slice none 0 0) (([] : List Int)) :: hown 47 5 v22 _ _ :: hownT 26 1 encI v5 _ :: hownT 42 4 Leaf.enc v7 _ :: hcells b1 [_, _] 25 :: l) rfl rfl ?_
          refine W.end ?_
          refine NX.sub (env' := [(3, _), (5, _), (6, _), (7, _), (9, _), (41, _), (42, _), (43, _), (11, _)]) ⟨rfl, rfl, rfl, rfl, rfl, rfl, rfl, rfl, rfl, trivial⟩ ?_
          refine NX.drop (l' := hcells b59 [_, _, _, _, _] 47 :: hown 47 5 v22 _ _ :: hownT 26 1 encI v5 _ :: hownT 42 4 Leaf.enc v7 _ :: hcells b1 [_, _] 25 :: l) (.cons_cons _ (.cons _ (.cons_cons _ (.cons_cons _ (.cons_cons _ (.cons_cons _ (.refl _))))))) ?_
          refine NX.then ?_
          refine Tr.seq ?_
          obtain ⟨r61, hr62, hr⟩ := bind_some hr
          obtain ⟨ha63, hr⟩ := guard_some hr
          refine Tr.region_f (fun _ => false) ?_
          refine W.q rfl rfl rfl rfl (by decide) (Yd.fldB rfl Try.underlying47 rfl SZ25 rfl (.t rfl)) ?_
          refine W.q rfl rfl rfl rfl (by decide) (Yd.ldBs (pos := 0) (us := [_, _]) rfl rfl rfl rfl ON25 US25 SZ25 (.t rfl)) ?_
          refine W.q rfl rfl rfl rfl (by decide) (Yd.call (v := .int .i64 r61) rfl Try.func28 rfl rfl (.cons (.t rfl) .nil) (fun x' hx w hw => syllogistref_LabelCheck_ok w0 x'.m x'.l (({ level := y54.who.level, parts := y54.who.parts } : Label)) _ hr62 w hw)) ?_
          refine W.q rfl rfl rfl rfl (by decide) (Yd.eql rfl (.t rfl) .c) ?_
          refine W.q rfl rfl rfl rfl (by decide) (Yd.mv rfl (.t rfl)) ?_
          refine W.g rfl rfl rfl rfl rfl (.t rfl _) rfl (by decide) (fun hG => Yd.fldB rfl Try.underlying47 rfl SZ25 rfl (.t rfl)) ?_
          refine W.g rfl rfl rfl rfl rfl (.t rfl _) rfl (by decide) (fun hG => Yd.ldBs (pos := 0) (us := [_, _]) rfl rfl rfl rfl ON25 US25 SZ25 (.g rfl hG)) ?_
          refine W.g rfl rfl rfl rfl rfl (.t rfl _) rfl (by decide) (fun hG => Yd.ldBs (pos := 4) (us := [_, _]) rfl rfl rfl rfl ON25 US25 SZ25 (.t rfl)) ?_
          refine W.g rfl rfl rfl rfl rfl (.t rfl _) rfl (by decide) (fun hG => Yd.call (v := .bool ((((syllogistref_Below (({ level := y54.who.level, parts := y54.who.parts } : Label)) (({ level := who_1.level, parts := who_1.parts } : Label))).getD false)))) rfl Try.func19 rfl rfl (.cons (.g rfl hG) (.cons (.g rfl hG) .nil)) (fun x' hx w hw => syllogistref_Below_ok w0 x'.m x'.l (({ level := y54.who.level, parts := y54.who.parts } : Label)) (({ level := who_1.level, parts := who_1.parts } : Label)) _ (gd_get (d := false) ha63 hG) w hw)) ?_
          refine W.q rfl rfl rfl rfl (by decide) (Yd.and rfl (.t rfl) .c rfl rfl) ?_
          refine W.end ?_
          refine NX.sub (env' := [(3, _), (5, _), (6, _), (7, _), (9, _), (41, _), (42, _), (43, _), (11, _), (56, _)]) ⟨rfl, rfl, rfl, rfl, rfl, rfl, rfl, rfl, rfl, rfl, trivial⟩ ?_
          refine NX.then ?_
          refine Tr.cond (.t rfl) (fun hb => ?_) (fun hb => ?_)
          · have hr := cond_t hb hr
            obtain ⟨hq67, hr⟩ := guard_some hr; replace hq67 := of_decide_eq_true hq67
            refine Tr.region_f (fun i => Nat.beq i 2 || Nat.beq i 3) ?_
            refine W.q rfl rfl rfl rfl (by decide) (Yd.mv rfl (.t rfl)) ?_
            refine W.q rfl rfl rfl rfl (by decide) (Yd.ldBs (pos := 0) (us := [_, _, _, _, _]) rfl rfl rfl rfl ON47 US47 SZ47 (.t rfl)) ?_
            refine W.e rfl rfl rfl rfl (by decide) (Ef.bsW (vs := [.agg #[.int .i64 y54.kind, .int .i64 y54.who.level, .int .u32 (y54.who.parts.toNat : Int), u56, .int .i64 y54.text]]) (cells := ([.int .i64 y54.kind, .int .i64 y54.who.level, .int .u32 (y54.who.parts.toNat : Int), u56, .int .i64 y54.text] : List Value)) IF47 rfl Try.underlying50 (by decide) rfl (.cons (.t rfl) .nil) rfl rfl rfl (by decide)) ?_
            rintro v64 _ rfl
            refine ⟨.inl rfl, ?_⟩
            refine W.cast (m' := m) (l' := hown 47 5 v64 _ _ :: hcells b59 [_, _, _, _, _] 47 :: hown 47 5 v22 _ _ :: hownT 26 1 encI v5 _ :: hownT 42 4 Leaf.enc v7 _ :: hcells b1 [_, _] 25 :: l) rfl rfl ?_
            refine W.e rfl rfl rfl rfl (by decide) (Ef.apW (R := rStroke) (pos := 2) (us' := ([.int .i64 y54.kind, .int .i64 y54.who.level, .int .u32 (y54.who.parts.toNat : Int), u56, .int .i64 y54.text] : List Value)) (xs := l21) (ys := ([({ kind := y54.kind, who := ({ level := y54.who.level, parts := y54.who.parts } : Label), path := y54.path, text := y54.text } : Stroke)] : List Stroke)) OC47 rfl IF47 rfl (Rws.one (MK47 (({ kind := y54.kind, who := ({ level := y54.who.level, parts := y54.who.parts } : Label), path := y54.path, text := y54.text } : Stroke)) hu57)) (Src.own (pos := 0) rfl) rfl Try.underlying50 rfl (by decide) (.t rfl) (.t rfl) (by omega) (by omega)) ?_
            rintro v66 _ rfl
            refine ⟨.inl rfl, ?_⟩
            refine W.cast (m' := m) (l' := hown 47 5 v64 _ _ :: hcells b59 [_, _, _, _, _] 47 :: hown 47 5 v66 _ _ :: hownT 26 1 encI v5 _ :: hownT 42 4 Leaf.enc v7 _ :: hcells b1 [_, _] 25 :: l) rfl rfl ?_
            refine W.q rfl rfl rfl rfl (by decide) (Yd.as rfl (.t rfl)) ?_
            refine W.end ?_
            refine NX.sub (env' := [(3, _), (5, _), (6, _), (7, _), (9, _), (41, _), (42, _), (43, _)]) ⟨rfl, rfl, rfl, rfl, rfl, rfl, rfl, rfl, trivial⟩ ?_
            refine NX.drop (l' := hown 47 5 v66 _ _ :: hownT 26 1 encI v5 _ :: hownT 42 4 Leaf.enc v7 _ :: hcells b1 [_, _] 25 :: l) (.cons _ (.cons _ (.cons_cons _ (.cons_cons _ (.cons_cons _ (.cons_cons _ (.refl _))))))) ?_
            refine NX.block ?_
            refine NX.then ?_
            refine Tr.region_f (fun _ => false) ?_
            refine W.q rfl rfl rfl rfl (by decide) (Yd.add rfl (.t rfl) .c) ?_
            refine W.q rfl rfl rfl rfl (by decide) (Yd.mv rfl (.t rfl)) ?_
            refine W.end ?_
            refine NX.sub (env' := [(3, _), (5, _), (6, _), (7, _), (9, _), (41, _), (42, _), (43, _)]) ⟨rfl, rfl, rfl, rfl, rfl, rfl, rfl, rfl, trivial⟩ ?_
            refine NX.sub (env' := [(3, _), (5, _), (6, _), (7, _), (9, _), (41, _), (42, _), (43, _)]) ⟨rfl, rfl, rfl, rfl, rfl, rfl, rfl, rfl, trivial⟩ ?_
            have hw := w64_id (n := t_49 + 1) (by omega) (by omega)
            exact NX.again n52 (t_49 + 1, (l21 ++ ([({ kind := y54.kind, who := ({ level := y54.who.level, parts := y54.who.parts } : Label), path := y54.path, text := y54.text } : Stroke)] : List Stroke))) (Nat.lt_succ_self _) ⟨_, _, (Rws.app hw24 (Rws.one (MK47 (({ kind := y54.kind, who := ({ level := y54.who.level, parts := y54.who.parts } : Label), path := y54.path, text := y54.text } : Stroke)) hu57))), (by rw [hw] <;> rfl), rfl, (fr_dec hnt_49), (by omega), ((hnx51 _).symm.trans hr)⟩
          · have hr := cond_f hb hr
            refine Tr.skip' ?_
            refine NX.block ?_
            refine NX.then ?_
            refine Tr.region_f (fun _ => false) ?_
            refine W.q rfl rfl rfl rfl (by decide) (Yd.add rfl (.t rfl) .c) ?_
            refine W.q rfl rfl rfl rfl (by decide) (Yd.mv rfl (.t rfl)) ?_
            refine W.end ?_
            refine NX.sub (env' := [(3, _), (5, _), (6, _), (7, _), (9, _), (41, _), (42, _), (43, _)]) ⟨rfl, rfl, rfl, rfl, rfl, rfl, rfl, rfl, trivial⟩ ?_
            refine NX.drop (l' := hown 47 5 v22 _ _ :: hownT 26 1 encI v5 _ :: hownT 42 4 Leaf.enc v7 _ :: hcells b1 [_, _] 25 :: l) (.cons _ (.cons_cons _ (.cons_cons _ (.cons_cons _ (.cons_cons _ (.refl _)))))) ?_
            refine NX.sub (env' := [(3, _), (5, _), (6, _), (7, _), (9, _), (41, _), (42, _), (43, _)]) ⟨rfl, rfl, rfl, rfl, rfl, rfl, rfl, rfl, trivial⟩ ?_
            have hw := w64_id (n := t_49 + 1) (by omega) (by omega)
            exact NX.again n52 (t_49 + 1, l21) (Nat.lt_succ_self _) ⟨_, _, hw24, (by rw [hw] <;> rfl), rfl, (fr_dec hnt_49), (by omega), ((hnx51 _).symm.trans hr)⟩
  refine Tr.cond (.t rfl) (fun hb => ?_) (fun hb => ?_)
  · have hr := cond_t hb hr
    refine Tr.region_f (fun _ => false) ?_
    refine W.q rfl rfl rfl rfl (by decide) (Yd.as rfl .c) ?_
    refine W.end ?_
    refine NX.sub (env' := [(0, _), (3, _), (5, _), (6, _), (7, _), (8, _)]) ⟨rfl, rfl, rfl, rfl, rfl, rfl, trivial⟩ ?_
    refine NX.sub (env' := [(0, _), (3, _), (5, _), (6, _), (7, _), (8, _)]) ⟨rfl, rfl, rfl, rfl, rfl, rfl, trivial⟩ ?_
    exact hk13 _ _ ⟨_, rfl, rfl, hr⟩
  · have hr := cond_f hb hr
    refine Tr.skip' ?_
    refine NX.sub (env' := [(0, _), (3, _), (5, _), (6, _), (7, _), (8, _)]) ⟨rfl, rfl, rfl, rfl, rfl, rfl, trivial⟩ ?_
    exact hk13 _ _ ⟨_, rfl, rfl, hr⟩

def syllogisttop_purge_k18 (l14 : List Stroke) : Option ((List Stroke)) :=
  some l14

def syllogisttop_purge_b24 (script_0 : List Stroke) (who_1 : Label) (t_23 : Int) (l10 : List Stroke) (nx25 : (List Stroke) → Option ((List Stroke))) : Option ((List Stroke)) :=
  (geti script_0 t_23).bind fun y28 =>
  (syllogistref_LabelCheck (({ level := y28.who.level, parts := y28.who.parts } : Label))).bind fun r35 =>
  bif (!((r35 == (0 : Int)) == true) || (syllogistref_Below (({ level := y28.who.level, parts := y28.who.parts } : Label)) (({ level := who_1.level, parts := who_1.parts } : Label))).isSome) then
  (bif ((r35 == (0 : Int)) && (((syllogistref_Below (({ level := y28.who.level, parts := y28.who.parts } : Label)) (({ level := who_1.level, parts := who_1.parts } : Label))).getD false))) then
  bif decide (l10.length + (([({ kind := y28.kind, who := ({ level := y28.who.level, parts := y28.who.parts } : Label), path := y28.path, text := y28.text } : Stroke)] : List Stroke)).length ≤ 2513169434916) then
  nx25 (l10 ++ ([({ kind := y28.kind, who := ({ level := y28.who.level, parts := y28.who.parts } : Label), path := y28.path, text := y28.text } : Stroke)] : List Stroke)) else none
  else
  nx25 l10) else none

def syllogisttop_purge (script_0 : List Stroke) (who_1 : Label) : Option ((List Stroke)) :=
  forK (σ := (List Stroke)) (fun i s nx_ => syllogisttop_purge_b24 script_0 who_1 i s nx_) (fun s => syllogisttop_purge_k18 s) ((script_0.length : Int) - (0 : Int)).toNat (0 : Int) (([] : List Stroke))

set_option maxRecDepth 100000 in
set_option maxHeartbeats 4000000 in
theorem syllogisttop_purge_ok (w0 : World) (m : Snap) (l : List HI) (uscript_0 : Value) (script_0 : List Stroke) (hscript_0 : RS rStroke m uscript_0 script_0) (who_1 : Label) (r : (List Stroke)) (hr : syllogisttop_purge script_0 who_1 = some r) (w : World) (hc : cX w0 ⟨m, l⟩ w) :
    Calls Try.prog 29 [uscript_0, .agg #[.int .i64 who_1.level, .int .u32 (who_1.parts.toNat : Int)]].toArray w fun e w' => ∃ z0 : Value, ∃ m1 : Snap, e = .returned (z0) ∧ Sle m m1 ∧ RS rStroke m1 z0 r ∧ cX w0 ⟨m1, l⟩ w' := by
  unfold syllogisttop_purge at hr
  refine calls_of_Tr (N := 30) Try.func29 rfl hc rfl (Nat.le_of_ble_eq_true rfl) ?_
  refine Tr.seq ?_
  refine Tr.region_f (fun i => Nat.beq i 0) ?_
  refine W.e rfl rfl rfl rfl (by decide) (Ef.bx rfl (.t rfl) rfl) ?_
  rintro _ _ ⟨b1, rfl, rfl⟩
  refine ⟨.inl rfl, ?_⟩
  refine W.cast (m' := m) (l' := hcells b1 [_, _] 25 :: l) rfl rfl ?_
  refine W.q rfl rfl rfl rfl (by decide) (Yd.as rfl .c) ?_
  refine W.end ?_
  refine NX.sub (env' := [(0, _), (3, _)]) ⟨rfl, rfl, trivial⟩ ?_
  refine NX.then ?_
  refine Tr.seq ?_
  refine Tr.region_f (fun _ => false) ?_
  refine W.q rfl rfl rfl rfl (by decide) (Yd.as rfl .c) ?_
  refine W.end ?_
  refine NX.sub (env' := [(0, _), (3, _), (5, _)]) ⟨rfl, rfl, rfl, trivial⟩ ?_
  refine NX.then ?_
  refine Tr.seq ?_
  refine Tr.seq ?_
  refine Tr.region_f (fun _ => false) ?_
  refine W.q rfl rfl rfl rfl (by decide) (Yd.mv rfl (.t rfl)) ?_
  refine W.q rfl rfl rfl rfl (by decide) (Yd.lenR hscript_0 rfl Try.underlying50 (.t rfl)) ?_
  refine W.q rfl rfl rfl rfl (by decide) (Yd.mv rfl .c) ?_
  refine W.end ?_
  refine NX.sub (env' := [(3, _), (5, _), (8, _), (9, _), (10, _)]) ⟨rfl, rfl, rfl, rfl, rfl, trivial⟩ ?_
  refine NX.then ?_
  refine Tr.addnil 47 5 ?_
  refine Tr.join (S := fun env x => ∃ l14 : List Stroke, ∃ v15 : Value, ∃ us16 : List Value, Rws rStroke m us16 l14 ∧ env = [(5, v15)] ∧ x = ⟨m, hown 47 5 v15 l14.length us16 :: l⟩ ∧ syllogisttop_purge_k18 l14 = some r) ?_ (fun hk19 => ?_)
  · rintro _ _ ⟨l14, v15, us16, hw17, rfl, rfl, hr⟩
    unfold syllogisttop_purge_k18 at hr
    try dsimp only at hr
    refine NX.then ?_
    refine Tr.seq ?_
    refine Tr.region_f (fun _ => false) ?_
    refine W.q rfl rfl rfl rfl (by decide) (Yd.mv rfl (.t rfl)) ?_
    refine W.q rfl rfl rfl rfl (by decide) (Yd.as rfl (.t rfl)) ?_
    refine W.end ?_
    refine NX.sub (env' := [(4, _)]) ⟨rfl, trivial⟩ ?_
    refine NX.then ?_
    refine Tr.ret' ?_
    refine res1 rfl rfl ?_
    intro w hc
    cases hr
    obtain ⟨m20, hsm20, hu21, hc⟩ := cX_freezeW rfl (p := 0) hc hw17 rfl
    have hscript_0 := hscript_0.mono hsm20
    have hw17 := hw17.mono hsm20
    exact ⟨_, _, rfl, hsm20, hu21, hc⟩
  have hlen22 := (hscript_0).2.1
  refine Tr.block ?_
  refine Tr.sub (env' := [(3, _), (5, _), (8, _), (9, _), (10, _)]) ⟨rfl, rfl, rfl, rfl, rfl, trivial⟩ ?_
  refine Tr.loop (S := fun n (z : Int × (List Stroke)) env x => match z with | (t_23, l10) => ∃ v11 : Value, ∃ us12 : List Value, Rws rStroke m us12 l10 ∧ env = [(3, bp b1 0), (5, v11), (8, uscript_0), (9, .int .i64 ((script_0.length : Int))), (10, .int .i64 t_23)] ∧ x = ⟨m, hown 47 5 v11 l10.length us12 :: hcells b1 [.int .i64 who_1.level, .int .u32 (who_1.parts.toNat : Int)] 25 :: l⟩ ∧ n = ((script_0.length : Int) - t_23).toNat ∧ 0 ≤ t_23 ∧ forK (σ := (List Stroke)) (fun i s nx_ => syllogisttop_purge_b24 script_0 who_1 i s nx_) (fun s => syllogisttop_purge_k18 s) n t_23 l10 = some r) _ ((0 : Int), ([] : List Stroke)) ⟨_, _, (Rws.nil _ _), rfl, rfl, rfl, (by omega), hr⟩ ?_
  rintro n26 ⟨t_23, l10⟩ env x ⟨v11, us12, hw13, rfl, rfl, hnt_23, h0t_23, hr⟩
  cases n26 with
  | zero =>
    simp only [forK] at hr
    refine Tr.seq ?_
    refine Tr.region_f (fun _ => false) ?_
    refine W.q rfl rfl rfl rfl (by decide) (Yd.lss rfl (.t rfl) (.t rfl)) ?_
    refine W.end ?_
    refine NX.sub (env' := [(3, _), (5, _), (8, _), (9, _), (10, _), (11, _)]) ⟨rfl, rfl, rfl, rfl, rfl, rfl, trivial⟩ ?_
    refine NX.then ?_
    refine Tr.seq ?_
    refine Tr.cond (.t rfl) (fun hb => ?_) (fun hb => ?_)
    · exact absurd (hb.symm.trans (fr_end hnt_23)) (by decide)
    ·
      refine Tr.exit' (EX.then (EX.then (EX.block ?_)))
      refine NX.sub (env' := [(5, _)]) ⟨rfl, trivial⟩ ?_
      refine NX.drop (l' := hown 47 5 v11 _ _ :: l) (.cons_cons _ (.cons _ (.refl _))) ?_
      exact hk19 _ _ ⟨_, _, _, hw13, rfl, rfl, hr⟩
  | succ n26 =>
    obtain ⟨nx25, hnx25, hr⟩ := forK_succ hr
    try dsimp only at hr
    unfold syllogisttop_purge_b24 at hr
    try dsimp only at hr
    have hltt_23 := fr_bnd hnt_23
    refine Tr.seq ?_
    refine Tr.region_f (fun _ => false) ?_
    refine W.q rfl rfl rfl rfl (by decide) (Yd.lss rfl (.t rfl) (.t rfl)) ?_
    refine W.end ?_
    refine NX.sub (env' := [(3, _), (5, _), (8, _), (9, _), (10, _), (11, _)]) ⟨rfl, rfl, rfl, rfl, rfl, rfl, trivial⟩ ?_
    refine NX.then ?_
    refine Tr.seq ?_
    refine Tr.cond (.t rfl) (fun hb => ?_) (fun hb => ?_)
    rotate_left
    · exact absurd (hb.symm.trans (fr_go hnt_23)) (by decide)
    ·
      refine Tr.skip' ?_
      refine NX.then ?_
      refine Tr.seq ?_
      refine Tr.block ?_
      refine Tr.seq ?_
      refine Tr.addnil 3 1 ?_
      refine Tr.cast (m' := m) (l' := hownT 3 1 encI (.slice none 0 0) (([] : List Int)) :: hown 47 5 v11 l10.length us12 :: hcells b1 [.int .i64 who_1.level, .int .u32 (who_1.parts.toNat : Int)] 25 :: l) rfl rfl ?_
      obtain ⟨y28, hy29, hr⟩ := bind_some hr
      refine Tr.region_f (fun i => Nat.beq i 2 || Nat.beq i 3) ?_
      refine W.q rfl rfl rfl rfl (by decide) (Yd.idxR hscript_0 hy29 rfl Try.underlying50 SZ47 (.t rfl) (.t rfl)) ?_
      obtain ⟨_, ⟨u30, rfl, hu31⟩, hat32⟩ := RS.el hscript_0 hy29
      refine W.q rfl rfl rfl rfl (by decide) (Yd.ldRs hat32 (.refl _) rfl ON47 US47 SZ47 rfl (.t rfl)) ?_
      refine W.e rfl rfl rfl rfl (by decide) (Ef.al rfl ZR47 rfl) ?_
      rintro _ _ ⟨b33, rfl, rfl⟩
      refine ⟨.inl rfl, ?_⟩
      refine W.cast (m' := m) (l' := hcells b33 [_, _, _, _, _] 47 :: hownT 3 1 encI (.slice none 0 0) (([] : List Int)) :: hown 47 5 v11 _ _ :: hcells b1 [_, _] 25 :: l) rfl rfl ?_
      refine W.s rfl rfl rfl rfl (Ef.stBs (pos := 0) (us := [.int .i64 y28.kind, .int .i64 y28.who.level, .int .u32 (y28.who.parts.toNat : Int), u30, .int .i64 y28.text]) (cs' := [_, _, _, _, _]) (.cons (On.lit rfl) (.cons (On.lit rfl) (.cons (On.lit rfl) (.cons (On.ro hu31) (.cons (On.lit rfl) .nil))))) rfl rfl (.t rfl) (.t rfl) SZ47 rfl rfl (Nat.le_of_ble_eq_true rfl) rfl) ?_
      rintro _ _ ⟨rfl, rfl⟩
      refine ⟨.inl rfl, ?_⟩
      refine W.cast (m' := m) (l' := hcells b33 [_, _, _, _, _] 47 :: hownT 3 1 encI (.slice none 0 0) (([] : List Int)) :: hown 47 5 v11 _ _ :: hcells b1 [_, _] 25 :: l) rfl rfl ?_
      refine W.end ?_
      refine NX.sub (env' := [(3, _), (5, _), (8, _), (9, _), (10, _), (7, _)]) ⟨rfl, rfl, rfl, rfl, rfl, rfl, trivial⟩ ?_
      refine NX.drop (l' := hcells b33 [_, _, _, _, _] 47 :: hown 47 5 v11 _ _ :: hcells b1 [_, _] 25 :: l) (.cons_cons _ (.cons _ (.cons_cons _ (.cons_cons _ (.refl _))))) ?_
      refine NX.then ?_
      refine Tr.seq ?_
      obtain ⟨r35, hr36, hr⟩ := bind_some hr
      obtain ⟨ha37, hr⟩ := guard_some hr
      refine Tr.region_f (fun _ => false) ?_
      refine W.q rfl rfl rfl rfl (by decide) (Yd.fldB rfl Try.underlying47 rfl SZ25 rfl (.t rfl)) ?_
      refine W.q rfl rfl rfl rfl (by decide) (Yd.ldBs (pos := 0) (us := [_, _]) rfl rfl rfl rfl ON25 US25 SZ25 (.t rfl)) ?_
      refine W.q rfl rfl rfl rfl (by decide) (Yd.call (v := .int .i64 r35) rfl Try.func28 rfl rfl (.cons (.t rfl) .nil) (fun x' hx w hw => syllogistref_LabelCheck_ok w0 x'.m x'.l (({ level := y28.who.level, parts := y28.who.parts } : Label)) _ hr36 w hw)) ?_
      refine W.q rfl rfl rfl rfl (by decide) (Yd.eql rfl (.t rfl) .c) ?_
      refine W.q rfl rfl rfl rfl (by decide) (Yd.mv rfl (.t rfl)) ?_
      refine W.g rfl rfl rfl rfl rfl (.t rfl _) rfl (by decide) (fun hG => Yd.fldB rfl Try.underlying47 rfl SZ25 rfl (.t rfl)) ?_
      refine W.g rfl rfl rfl rfl rfl (.t rfl _) rfl (by decide) (fun hG => Yd.ldBs (pos := 0) (us := [_, _]) rfl rfl rfl rfl ON25 US25 SZ25 (.g rfl hG)) ?_
      refine W.g rfl rfl rfl rfl rfl (.t rfl _) rfl (by decide) (fun hG => Yd.ldBs (pos := 2) (us := [_, _]) rfl rfl rfl rfl ON25 US25 SZ25 (.t rfl)) ?_
      refine W.g rfl rfl rfl rfl rfl (.t rfl _) rfl (by decide) (fun hG => Yd.call (v := .bool ((((syllogistref_Below (({ level := y28.who.level, parts := y28.who.parts } : Label)) (({ level := who_1.level, parts := who_1.parts } : Label))).getD false)))) rfl Try.func19 rfl rfl (.cons (.g rfl hG) (.cons (.g rfl hG) .nil)) (fun x' hx w hw => syllogistref_Below_ok w0 x'.m x'.l (({ level := y28.who.level, parts := y28.who.parts } : Label)) (({ level := who_1.level, parts := who_1.parts } : Label)) _ (gd_get (d := false) ha37 hG) w hw)) ?_
      refine W.q rfl rfl rfl rfl (by decide) (Yd.and rfl (.t rfl) .c rfl rfl) ?_
      refine W.end ?_
      refine NX.sub (env' := [(3, _), (5, _), (8, _), (9, _), (10, _), (7, _), (23, _)]) ⟨rfl, rfl, rfl, rfl, rfl, rfl, rfl, trivial⟩ ?_
      refine NX.then ?_
      refine Tr.cond (.t rfl) (fun hb => ?_) (fun hb => ?_)
      · have hr := cond_t hb hr
        obtain ⟨hq41, hr⟩ := guard_some hr; replace hq41 := of_decide_eq_true hq41
        refine Tr.region_f (fun i => Nat.beq i 2 || Nat.beq i 3) ?_
        refine W.q rfl rfl rfl rfl (by decide) (Yd.mv rfl (.t rfl)) ?_
        refine W.q rfl rfl rfl rfl (by decide) (Yd.ldBs (pos := 0) (us := [_, _, _, _, _]) rfl rfl rfl rfl ON47 US47 SZ47 (.t rfl)) ?_
        refine W.e rfl rfl rfl rfl (by decide) (Ef.bsW (vs := [.agg #[.int .i64 y28.kind, .int .i64 y28.who.level, .int .u32 (y28.who.parts.toNat : Int), u30, .int .i64 y28.text]]) (cells := ([.int .i64 y28.kind, .int .i64 y28.who.level, .int .u32 (y28.who.parts.toNat : Int), u30, .int .i64 y28.text] : List Value)) IF47 rfl Try.underlying50 (by decide) rfl (.cons (.t rfl) .nil) rfl rfl rfl (by decide)) ?_
        rintro v38 _ rfl
        refine ⟨.inl rfl, ?_⟩
        refine W.cast (m' := m) (l' := hown 47 5 v38 _ _ :: hcells b33 [_, _, _, _, _] 47 :: hown 47 5 v11 _ _ :: hcells b1 [_, _] 25 :: l) rfl rfl ?_
        refine W.e rfl rfl rfl rfl (by decide) (Ef.apW (R := rStroke) (pos := 2) (us' := ([.int .i64 y28.kind, .int .i64 y28.who.level, .int .u32 (y28.who.parts.toNat : Int), u30, .int .i64 y28.text] : List Value)) (xs := l10) (ys := ([({ kind := y28.kind, who := ({ level := y28.who.level, parts := y28.who.parts } : Label), path := y28.path, text := y28.text } : Stroke)] : List Stroke)) OC47 rfl IF47 rfl (Rws.one (MK47 (({ kind := y28.kind, who := ({ level := y28.who.level, parts := y28.who.parts } : Label), path := y28.path, text := y28.text } : Stroke)) hu31)) (Src.own (pos := 0) rfl) rfl Try.underlying50 rfl (by decide) (.t rfl) (.t rfl) (by omega) (by omega)) ?_
        rintro v40 _ rfl
        refine ⟨.inl rfl, ?_⟩
        refine W.cast (m' := m) (l' := hown 47 5 v38 _ _ :: hcells b33 [_, _, _, _, _] 47 :: hown 47 5 v40 _ _ :: hcells b1 [_, _] 25 :: l) rfl rfl ?_
        refine W.q rfl rfl rfl rfl (by decide) (Yd.as rfl (.t rfl)) ?_
        refine W.end ?_
        refine NX.sub (env' := [(3, _), (5, _), (8, _), (9, _), (10, _)]) ⟨rfl, rfl, rfl, rfl, rfl, trivial⟩ ?_
        refine NX.drop (l' := hown 47 5 v40 _ _ :: hcells b1 [_, _] 25 :: l) (.cons _ (.cons _ (.cons_cons _ (.cons_cons _ (.refl _))))) ?_
        refine NX.block ?_
        refine NX.then ?_
        refine Tr.region_f (fun _ => false) ?_
        refine W.q rfl rfl rfl rfl (by decide) (Yd.add rfl (.t rfl) .c) ?_
        refine W.q rfl rfl rfl rfl (by decide) (Yd.mv rfl (.t rfl)) ?_
        refine W.end ?_
        refine NX.sub (env' := [(3, _), (5, _), (8, _), (9, _), (10, _)]) ⟨rfl, rfl, rfl, rfl, rfl, trivial⟩ ?_
        refine NX.sub (env' := [(3, _), (5, _), (8, _), (9, _), (10, _)]) ⟨rfl, rfl, rfl, rfl, rfl, trivial⟩ ?_
        have hw := w64_id (n := t_23 + 1) (by omega) (by omega)
        exact NX.again n26 (t_23 + 1, (l10 ++ ([({ kind := y28.kind, who := ({ level := y28.who.level, parts := y28.who.parts } : Label), path := y28.path, text := y28.text } : Stroke)] : List Stroke))) (Nat.lt_succ_self _) ⟨_, _, (Rws.app hw13 (Rws.one (MK47 (({ kind := y28.kind, who := ({ level := y28.who.level, parts := y28.who.parts } : Label), path := y28.path, text := y28.text } : Stroke)) hu31))), (by rw [hw] <;> rfl), rfl, (fr_dec hnt_23), (by omega), ((hnx25 _).symm.trans hr)⟩
      · have hr := cond_f hb hr
        refine Tr.skip' ?_
        refine NX.block ?_
        refine NX.then ?_
        refine Tr.region_f (fun _ => false) ?_
        refine W.q rfl rfl rfl rfl (by decide) (Yd.add rfl (.t rfl) .c) ?_
        refine W.q rfl rfl rfl rfl (by decide) (Yd.mv rfl (.t rfl)) ?_
        refine W.end ?_
        refine NX.sub (env' := [(3, _), (5, _), (8, _), (9, _), (10, _)]) ⟨rfl, rfl, rfl, rfl, rfl, trivial⟩ ?_
        refine NX.drop (l' := hown 47 5 v11 _ _ :: hcells b1 [_, _] 25 :: l) (.cons _ (.cons_cons _ (.cons_cons _ (.refl _)))) ?_
        refine NX.sub (env' := [(3, _), (5, _), (8, _), (9, _), (10, _)]) ⟨rfl, rfl, rfl, rfl, rfl, trivial⟩ ?_
        have hw := w64_id (n := t_23 + 1) (by omega) (by omega)
        exact NX.again n26 (t_23 + 1, l10) (Nat.lt_succ_self _) ⟨_, _, hw13, (by rw [hw] <;> rfl), rfl, (fr_dec hnt_23), (by omega), ((hnx25 _).symm.trans hr)⟩

def syllogisttop_may (script_0 : List Stroke) (who_1 : Label) : Option (Bool) :=
  bif (!((decide ((script_0.length : Int) ≤ (30 : Int))) == true) || (syllogistref_LabelCheck (({ level := who_1.level, parts := who_1.parts } : Label))).isSome) then
  some (((decide ((script_0.length : Int) ≤ (30 : Int))) && ((((syllogistref_LabelCheck (({ level := who_1.level, parts := who_1.parts } : Label))).getD (0 : Int))) == (0 : Int)))) else none

set_option maxRecDepth 100000 in
set_option maxHeartbeats 4000000 in
theorem syllogisttop_may_ok (w0 : World) (m : Snap) (l : List HI) (uscript_0 : Value) (script_0 : List Stroke) (hscript_0 : RS rStroke m uscript_0 script_0) (who_1 : Label) (r : Bool) (hr : syllogisttop_may script_0 who_1 = some r) (w : World) (hc : cX w0 ⟨m, l⟩ w) :
    Calls Try.prog 30 [uscript_0, .agg #[.int .i64 who_1.level, .int .u32 (who_1.parts.toNat : Int)]].toArray w fun e w' => e = .returned (.bool r) ∧ cX w0 ⟨m, l⟩ w' := by
  unfold syllogisttop_may at hr
  refine calls_of_Tr (N := 13) Try.func30 rfl hc rfl (Nat.le_of_ble_eq_true rfl) ?_
  refine Tr.seq ?_
  refine Tr.region_f (fun i => Nat.beq i 0) ?_
  refine W.e rfl rfl rfl rfl (by decide) (Ef.bx rfl (.t rfl) rfl) ?_
  rintro _ _ ⟨b1, rfl, rfl⟩
  refine ⟨.inl rfl, ?_⟩
  refine W.cast (m' := m) (l' := hcells b1 [_, _] 25 :: l) rfl rfl ?_
  refine W.q rfl rfl rfl rfl (by decide) (Yd.as rfl .c) ?_
  refine W.end ?_
  refine NX.sub (env' := [(0, _), (3, _)]) ⟨rfl, rfl, trivial⟩ ?_
  refine NX.then ?_
  refine Tr.seq ?_
  obtain ⟨ha3, hr⟩ := guard_some hr
  refine Tr.region_f (fun _ => false) ?_
  refine W.q rfl rfl rfl rfl (by decide) (Yd.mv rfl (.t rfl)) ?_
  refine W.q rfl rfl rfl rfl (by decide) (Yd.lenR hscript_0 rfl Try.underlying50 (.t rfl)) ?_
  refine W.q rfl rfl rfl rfl (by decide) (Yd.leq rfl (.t rfl) .c) ?_
  refine W.q rfl rfl rfl rfl (by decide) (Yd.mv rfl (.t rfl)) ?_
  refine W.g rfl rfl rfl rfl rfl (.t rfl _) rfl (by decide) (fun hG => Yd.ldBs (pos := 0) (us := [_, _]) rfl rfl rfl rfl ON25 US25 SZ25 (.t rfl)) ?_
  refine W.g rfl rfl rfl rfl rfl (.t rfl _) rfl (by decide) (fun hG => Yd.call (v := .int .i64 ((((syllogistref_LabelCheck (({ level := who_1.level, parts := who_1.parts } : Label))).getD (0 : Int))))) rfl Try.func28 rfl rfl (.cons (.g rfl hG) .nil) (fun x' hx w hw => syllogistref_LabelCheck_ok w0 x'.m x'.l (({ level := who_1.level, parts := who_1.parts } : Label)) _ (gd_get (d := (0 : Int)) ha3 hG) w hw)) ?_
  refine W.g rfl rfl rfl rfl rfl (.t rfl _) rfl (by decide) (fun hG => Yd.eql rfl (.g rfl hG) .c) ?_
  refine W.q rfl rfl rfl rfl (by decide) (Yd.and rfl (.t rfl) .c rfl rfl) ?_
  refine W.q rfl rfl rfl rfl (by decide) (Yd.as rfl (.t rfl)) ?_
  refine W.end ?_
  refine NX.sub (env' := [(4, _)]) ⟨rfl, trivial⟩ ?_
  refine NX.drop (l' := l) (.cons _ (.refl _)) ?_
  refine NX.then ?_
  refine Tr.ret' ?_
  refine res1 rfl rfl ?_
  intro w hc
  cases hr
  exact ⟨rfl, hc⟩

def syllogisttop_TopApart (fuel : Nat) (script_0 : List Stroke) (who_1 : Label) : Option (Bool) :=
  (hands_Seen fuel script_0 (({ level := who_1.level, parts := who_1.parts } : Label))).bind fun r3 =>
  (syllogisttop_purge script_0 (({ level := who_1.level, parts := who_1.parts } : Label))).bind fun r9 =>
  (hands_Seen fuel r9 (({ level := who_1.level, parts := who_1.parts } : Label))).bind fun r14 =>
  (syllogisttop_may script_0 (({ level := who_1.level, parts := who_1.parts } : Label))).bind fun r20 =>
  (bif (!r20) then
  some ((r3.2.2 != (0 : Int)))
  else
  bif (!(((r3.2.2 == (0 : Int)) && (r14.2.2 == (0 : Int))) == true) || (syllogistref_Codes r3.1 r14.1).isSome) then
  bif (!((((r3.2.2 == (0 : Int)) && (r14.2.2 == (0 : Int))) && (((syllogistref_Codes r3.1 r14.1).getD false))) == true) || (syllogistref_Leaves r3.2.1 r14.2.1).isSome) then
  (bif (((((r3.2.2 == (0 : Int)) && (r14.2.2 == (0 : Int))) && (((syllogistref_Codes r3.1 r14.1).getD false))) && (((syllogistref_Leaves r3.2.1 r14.2.1).getD false))) == true) then
  (syllogisttop_purge script_0 (({ level := who_1.level, parts := who_1.parts } : Label))).bind fun r25 =>
  some ((((((r3.2.2 == (0 : Int)) && (r14.2.2 == (0 : Int))) && (((syllogistref_Codes r3.1 r14.1).getD false))) && (((syllogistref_Leaves r3.2.1 r14.2.1).getD false))) && ((r3.1.length : Int) == (r25.length : Int))))
  else
  some ((((((r3.2.2 == (0 : Int)) && (r14.2.2 == (0 : Int))) && (((syllogistref_Codes r3.1 r14.1).getD false))) && (((syllogistref_Leaves r3.2.1 r14.2.1).getD false))) && false))) else none else none)

set_option maxRecDepth 100000 in
set_option maxHeartbeats 4000000 in
theorem syllogisttop_TopApart_ok (w0 : World) (m : Snap) (l : List HI) (fuel : Nat) (uscript_0 : Value) (script_0 : List Stroke) (hscript_0 : RS rStroke m uscript_0 script_0) (who_1 : Label) (r : Bool) (hr : syllogisttop_TopApart fuel script_0 who_1 = some r) (w : World) (hc : cX w0 ⟨m, l⟩ w) :
    Calls Try.prog 9 [uscript_0, .agg #[.int .i64 who_1.level, .int .u32 (who_1.parts.toNat : Int)]].toArray w fun e w' => e = .returned (.bool r) ∧ cX w0 ⟨m, l⟩ w' := by
  unfold syllogisttop_TopApart at hr
  refine calls_of_Tr (N := 58) Try.func9 rfl hc rfl (Nat.le_of_ble_eq_true rfl) ?_
  refine Tr.seq ?_
  refine Tr.region_f (fun i => Nat.beq i 0) ?_
  refine W.e rfl rfl rfl rfl (by decide) (Ef.bx rfl (.t rfl) rfl) ?_
  rintro _ _ ⟨b1, rfl, rfl⟩
  refine ⟨.inl rfl, ?_⟩
  refine W.cast (m' := m) (l' := hcells b1 [_, _] 25 :: l) rfl rfl ?_
  refine W.q rfl rfl rfl rfl (by decide) (Yd.as rfl .c) ?_
  refine W.end ?_
  refine NX.sub (env' := [(0, _), (3, _)]) ⟨rfl, rfl, trivial⟩ ?_
  refine NX.then ?_
  refine Tr.seq ?_
  obtain ⟨r3, hr4, hr⟩ := bind_some hr
  refine Tr.region_f (fun i => Nat.beq i 2) ?_
  refine W.q rfl rfl rfl rfl (by decide) (Yd.mv rfl (.t rfl)) ?_
  refine W.q rfl rfl rfl rfl (by decide) (Yd.ldBs (pos := 0) (us := [_, _]) rfl rfl rfl rfl ON25 US25 SZ25 (.t rfl)) ?_
  refine W.e rfl rfl rfl rfl (by decide) (Ef.call (R := fun z x' => ∃ v5 : Value, ∃ v7 : Value, z = .tuple #[v5, v7, .int .i64 r3.2.2] ∧ x' = ⟨m, hownT 26 1 encI v5 r3.1 :: hownT 42 4 Leaf.enc v7 r3.2.1 :: hcells b1 [.int .i64 who_1.level, .int .u32 (who_1.parts.toNat : Int)] 25 :: l⟩) rfl Try.func27 rfl rfl (.cons (.t rfl) (.cons (.t rfl) .nil)) (fun w hw => (hands_Seen_ok w0 _ _ fuel _ _ hscript_0 (({ level := who_1.level, parts := who_1.parts } : Label)) _ hr4 w hw).mono fun e w' ⟨v5, v7, he, hc'⟩ => ⟨_, _, he, ⟨v5, v7, rfl, rfl⟩, hc'⟩)) ?_
  rintro _ _ ⟨v5, v7, rfl, rfl⟩
  refine ⟨.inl rfl, ?_⟩
  refine W.cast (m' := m) (l' := hownT 26 1 encI v5 _ :: hownT 42 4 Leaf.enc v7 _ :: hcells b1 [_, _] 25 :: l) rfl rfl ?_
  refine W.q rfl rfl rfl rfl (by decide) (Yd.mv rfl (.t rfl)) ?_
  refine W.q rfl rfl rfl rfl (by decide) (Yd.ext rfl (.t rfl) rfl) ?_
  refine W.q rfl rfl rfl rfl (by decide) (Yd.ext rfl (.t rfl) rfl) ?_
  refine W.q rfl rfl rfl rfl (by decide) (Yd.ext rfl (.t rfl) rfl) ?_
  refine W.q rfl rfl rfl rfl (by decide) (Yd.as rfl (.t rfl)) ?_
  refine W.q rfl rfl rfl rfl (by decide) (Yd.as rfl (.t rfl)) ?_
  refine W.q rfl rfl rfl rfl (by decide) (Yd.as rfl (.t rfl)) ?_
  refine W.end ?_
  refine NX.sub (env' := [(0, _), (3, _), (5, _), (6, _), (7, _)]) ⟨rfl, rfl, rfl, rfl, rfl, trivial⟩ ?_
  refine NX.then ?_
  refine Tr.seq ?_
  obtain ⟨r9, hr10, hr⟩ := bind_some hr
  obtain ⟨r14, hr15, hr⟩ := bind_some hr
  refine Tr.region_x (fun i => Nat.beq i 2 || Nat.beq i 4) (fun _ => false) (Ord.of [0, 1, 3, 2, 4, 5, 6, 7, 8, 9, 10, 11]) FM (by kernel_rfl) ?_
  refine W.q rfl rfl rfl rfl (by decide) (Yd.mv rfl (.t rfl)) ?_
  refine W.q rfl rfl rfl rfl (by decide) (Yd.ldBs (pos := 2) (us := [_, _]) rfl rfl rfl rfl ON25 US25 SZ25 (.t rfl)) ?_
  refine W.q rfl rfl rfl rfl (by decide) (Yd.ldBs (pos := 2) (us := [_, _]) rfl rfl rfl rfl ON25 US25 SZ25 (.t rfl)) ?_
  refine W.e rfl rfl rfl rfl (by decide) (Ef.call (R := fun z x' => ∃ u11 : Value, ∃ m12 : Snap, z = u11 ∧ x' = ⟨m12, hownT 26 1 encI v5 r3.1 :: hownT 42 4 Leaf.enc v7 r3.2.1 :: hcells b1 [.int .i64 who_1.level, .int .u32 (who_1.parts.toNat : Int)] 25 :: l⟩ ∧ Sle m m12 ∧ RS rStroke m12 u11 r9) rfl Try.func29 rfl rfl (.cons (.t rfl) (.cons (.t rfl) .nil)) (fun w hw => (syllogisttop_purge_ok w0 _ _ _ _ hscript_0 (({ level := who_1.level, parts := who_1.parts } : Label)) _ hr10 w hw).mono fun e w' ⟨u11, m12, he, hm', hu13, hc'⟩ => ⟨_, _, he, ⟨u11, m12, rfl, rfl, hm', hu13⟩, hc'⟩)) ?_
  rintro u11 _ ⟨_, m12, rfl, rfl, hsm12, hu13⟩
  have hscript_0 := hscript_0.mono hsm12
  refine ⟨.inr ⟨hsm12, [], rfl⟩, ?_⟩
  refine W.cast (m' := m12) (l' := hownT 26 1 encI v5 _ :: hownT 42 4 Leaf.enc v7 _ :: hcells b1 [_, _] 25 :: l) rfl rfl ?_
  refine W.e rfl rfl rfl rfl (by decide) (Ef.call (R := fun z x' => ∃ v16 : Value, ∃ v18 : Value, z = .tuple #[v16, v18, .int .i64 r14.2.2] ∧ x' = ⟨m12, hownT 26 1 encI v16 r14.1 :: hownT 42 4 Leaf.enc v18 r14.2.1 :: hownT 26 1 encI v5 r3.1 :: hownT 42 4 Leaf.enc v7 r3.2.1 :: hcells b1 [.int .i64 who_1.level, .int .u32 (who_1.parts.toNat : Int)] 25 :: l⟩) rfl Try.func27 rfl rfl (.cons (.t rfl) (.cons (.t rfl) .nil)) (fun w hw => (hands_Seen_ok w0 _ _ fuel _ _ hu13 (({ level := who_1.level, parts := who_1.parts } : Label)) _ hr15 w hw).mono fun e w' ⟨v16, v18, he, hc'⟩ => ⟨_, _, he, ⟨v16, v18, rfl, rfl⟩, hc'⟩)) ?_
  rintro _ _ ⟨v16, v18, rfl, rfl⟩
  refine ⟨.inr ⟨.refl _, [_, _], rfl⟩, ?_⟩
  refine W.cast (m' := m12) (l' := hownT 26 1 encI v16 _ :: hownT 42 4 Leaf.enc v18 _ :: hownT 26 1 encI v5 _ :: hownT 42 4 Leaf.enc v7 _ :: hcells b1 [_, _] 25 :: l) rfl rfl ?_
  refine W.q rfl rfl rfl rfl (by decide) (Yd.mv rfl (.t rfl)) ?_
  refine W.q rfl rfl rfl rfl (by decide) (Yd.ext rfl (.t rfl) rfl) ?_
  refine W.q rfl rfl rfl rfl (by decide) (Yd.ext rfl (.t rfl) rfl) ?_
  refine W.q rfl rfl rfl rfl (by decide) (Yd.ext rfl (.t rfl) rfl) ?_
  refine W.q rfl rfl rfl rfl (by decide) (Yd.as rfl (.t rfl)) ?_
  refine W.q rfl rfl rfl rfl (by decide) (Yd.as rfl (.t rfl)) ?_
  refine W.q rfl rfl rfl rfl (by decide) (Yd.as rfl (.t rfl)) ?_
  refine W.end ?_
  refine NX.sub (env' := [(0, _), (3, _), (5, _), (6, _), (7, _), (8, _), (9, _), (10, _)]) ⟨rfl, rfl, rfl, rfl, rfl, rfl, rfl, rfl, trivial⟩ ?_
  refine NX.then ?_
  refine Tr.seq ?_
  refine Tr.seq ?_
  obtain ⟨r20, hr21, hr⟩ := bind_some hr
  refine Tr.region_f (fun _ => false) ?_
  refine W.q rfl rfl rfl rfl (by decide) (Yd.mv rfl (.t rfl)) ?_
  refine W.q rfl rfl rfl rfl (by decide) (Yd.ldBs (pos := 4) (us := [_, _]) rfl rfl rfl rfl ON25 US25 SZ25 (.t rfl)) ?_
  refine W.q rfl rfl rfl rfl (by decide) (Yd.call (v := .bool r20) rfl Try.func30 rfl rfl (.cons (.t rfl) (.cons (.t rfl) .nil)) (fun x' hx w hw => syllogisttop_may_ok w0 x'.m x'.l _ _ (hscript_0.mono hx.1) (({ level := who_1.level, parts := who_1.parts } : Label)) _ hr21 w hw)) ?_
  refine W.q rfl rfl rfl rfl (by decide) (Yd.not rfl (.t rfl)) ?_
  refine W.end ?_
  refine NX.sub (env' := [(0, _), (3, _), (5, _), (6, _), (7, _), (8, _), (9, _), (10, _), (30, _)]) ⟨rfl, rfl, rfl, rfl, rfl, rfl, rfl, rfl, rfl, trivial⟩ ?_
  refine NX.then ?_
  refine Tr.cond (.t rfl) (fun hb => ?_) (fun hb => ?_)
  · have hr := cond_t hb hr
    refine Tr.seq ?_
    refine Tr.region_f (fun _ => false) ?_
    refine W.q rfl rfl rfl rfl (by decide) (Yd.mv rfl (.t rfl)) ?_
    refine W.q rfl rfl rfl rfl (by decide) (Yd.neq rfl (.t rfl) .c) ?_
    refine W.q rfl rfl rfl rfl (by decide) (Yd.as rfl (.t rfl)) ?_
    refine W.end ?_
    refine NX.sub (env' := [(4, _)]) ⟨rfl, trivial⟩ ?_
    refine NX.drop (l' := l) (.cons _ (.cons _ (.cons _ (.cons _ (.cons _ (.refl _)))))) ?_
    refine NX.then ?_
    refine Tr.ret' (RT.then ?_)
    refine res1 rfl rfl ?_
    intro w hc
    cases hr
    exact ⟨rfl, (cX_le (x := ⟨m, _⟩) ⟨hsm12, [], rfl⟩ hc)⟩
  · have hr := cond_f hb hr
    refine Tr.skip' ?_
    refine NX.then ?_
    refine Tr.seq ?_
    obtain ⟨ha22, hr⟩ := guard_some hr
    obtain ⟨ha23, hr⟩ := guard_some hr
    refine Tr.region_f (fun i => Nat.beq i 21) ?_
    refine W.q rfl rfl rfl rfl (by decide) (Yd.mv rfl (.t rfl)) ?_
    refine W.q rfl rfl rfl rfl (by decide) (Yd.eql rfl (.t rfl) .c) ?_
    refine W.q rfl rfl rfl rfl (by decide) (Yd.mv rfl (.t rfl)) ?_
    refine W.g rfl rfl rfl rfl rfl (.t rfl _) rfl (by decide) (fun hG => Yd.mv rfl (.t rfl)) ?_
    refine W.g rfl rfl rfl rfl rfl (.t rfl _) rfl (by decide) (fun hG => Yd.eql rfl (.g rfl hG) .c) ?_
    refine W.q rfl rfl rfl rfl (by decide) (Yd.and rfl (.t rfl) .c rfl rfl) ?_
    refine W.q rfl rfl rfl rfl (by decide) (Yd.mv rfl (.t rfl)) ?_
    refine W.g rfl rfl rfl rfl rfl (.t rfl _) rfl (by decide) (fun hG => Yd.mv rfl (.t rfl)) ?_
    refine W.g rfl rfl rfl rfl rfl (.t rfl _) rfl (by decide) (fun hG => Yd.mv rfl (.t rfl)) ?_
    refine W.g rfl rfl rfl rfl rfl (.t rfl _) rfl (by decide) (fun hG => Yd.call (v := .bool ((((syllogistref_Codes r3.1 r14.1).getD false)))) rfl Try.func26 rfl rfl (.cons (.g rfl hG) (.cons (.g rfl hG) .nil)) (by intro x' hx w hw; obtain ⟨p0, p1, hp0, hp1⟩ := hx.at2 (a := 2) (b := 0) rfl rfl rfl; obtain ⟨m1, hm1, hc1, ⟨L1, hl0a, hl0b'⟩, hback1⟩ := cX_lend hw hp0 lone_own; obtain ⟨m2, hm2', hc2, ⟨L2, hl1a, hl1b⟩, hback2⟩ := cX_lend hc1 hp1 lone_own; have hm2 := hm1.trans hm2'; have hl0b : ∀ q ∈ L1, m2 q.1 = some q.2 := fun q hq => hm2' _ _ (hl0b' q hq); have hL1 : RS rI m2 _ _ := RS_of_own hl0a hl0b; have hL2 : RS rI m2 _ _ := RS_of_own hl1a hl1b; exact (syllogistref_Codes_ok w0 m2 _ _ _ hL1 _ _ hL2 _ (gd_get (d := false) ha22 hG) w hc2).mono fun e w' ⟨he, hc'⟩ => ⟨he, (hback1 m1 _ _ w' (.refl _) hp0).2 ((hback2 m2 _ _ w' (.refl _) hp1).2 hc')⟩)) ?_
    refine W.q rfl rfl rfl rfl (by decide) (Yd.and rfl (.t rfl) .c rfl rfl) ?_
    refine W.q rfl rfl rfl rfl (by decide) (Yd.mv rfl (.t rfl)) ?_
    refine W.g rfl rfl rfl rfl rfl (.t rfl _) rfl (by decide) (fun hG => Yd.mv rfl (.t rfl)) ?_
    refine W.g rfl rfl rfl rfl rfl (.t rfl _) rfl (by decide) (fun hG => Yd.mv rfl (.t rfl)) ?_
    refine W.g rfl rfl rfl rfl rfl (.t rfl _) rfl (by decide) (fun hG => Yd.call (v := .bool ((((syllogistref_Leaves r3.2.1 r14.2.1).getD false)))) rfl Try.func14 rfl rfl (.cons (.g rfl hG) (.cons (.g rfl hG) .nil)) (by intro x' hx w hw; obtain ⟨p0, p1, hp0, hp1⟩ := hx.at2 (a := 3) (b := 1) rfl rfl rfl; obtain ⟨m1, hm1, hc1, ⟨L1, hl0a, hl0b'⟩, hback1⟩ := cX_lend hw hp0 lone_own; obtain ⟨m2, hm2', hc2, ⟨L2, hl1a, hl1b⟩, hback2⟩ := cX_lend hc1 hp1 lone_own; have hm2 := hm1.trans hm2'; have hl0b : ∀ q ∈ L1, m2 q.1 = some q.2 := fun q hq => hm2' _ _ (hl0b' q hq); have hL1 : RS rLeaf m2 _ _ := RS_of_own hl0a hl0b; have hL2 : RS rLeaf m2 _ _ := RS_of_own hl1a hl1b; exact (syllogistref_Leaves_ok w0 m2 _ _ _ hL1 _ _ hL2 _ (gd_get (d := false) ha23 hG) w hc2).mono fun e w' ⟨he, hc'⟩ => ⟨he, (hback1 m1 _ _ w' (.refl _) hp0).2 ((hback2 m2 _ _ w' (.refl _) hp1).2 hc')⟩)) ?_
    refine W.q rfl rfl rfl rfl (by decide) (Yd.and rfl (.t rfl) .c rfl rfl) ?_
    refine W.q rfl rfl rfl rfl (by decide) (Yd.mv rfl (.t rfl)) ?_
    refine W.g rfl rfl rfl rfl rfl (.t rfl _) rfl (by decide) (fun hG => Yd.mv rfl (.t rfl)) ?_
    refine W.g rfl rfl rfl rfl rfl (.t rfl _) rfl (by decide) (fun hG => Yd.lenO (p := 2) rfl rfl Try.underlying51 (.g rfl hG)) ?_
    refine W.g rfl rfl rfl rfl rfl (.t rfl _) rfl (by decide) (fun hG => Yd.mv rfl (.t rfl)) ?_
    refine W.g rfl rfl rfl rfl rfl (.t rfl _) rfl (by decide) (fun hG => Yd.ldBs (pos := 4) (us := [_, _]) rfl rfl rfl rfl ON25 US25 SZ25 (.t rfl)) ?_
    refine W.split (b := (((((r3.2.2 == (0 : Int)) && (r14.2.2 == (0 : Int))) && (((syllogistref_Codes r3.1 r14.1).getD false))) && (((syllogistref_Leaves r3.2.1 r14.2.1).getD false))) == true)) (fun hb24 => ?_) (fun hb24 => ?_)
    · have hr := cond_t hb24 hr
      obtain ⟨r25, hr26, hr⟩ := bind_some hr
      refine W.ge rfl rfl rfl rfl rfl (.t rfl _) hb24 rfl (by decide) (Ef.call (R := fun z x' => ∃ u27 : Value, ∃ m28 : Snap, z = u27 ∧ x' = ⟨m28, hownT 26 1 encI v16 r14.1 :: hownT 42 4 Leaf.enc v18 r14.2.1 :: hownT 26 1 encI v5 r3.1 :: hownT 42 4 Leaf.enc v7 r3.2.1 :: hcells b1 [.int .i64 who_1.level, .int .u32 (who_1.parts.toNat : Int)] 25 :: l⟩ ∧ Sle m12 m28 ∧ RS rStroke m28 u27 r25) rfl Try.func29 rfl rfl (.cons (.g rfl hb24) (.cons (.g rfl hb24) .nil)) (fun w hw => (syllogisttop_purge_ok w0 _ _ _ _ hscript_0 (({ level := who_1.level, parts := who_1.parts } : Label)) _ hr26 w hw).mono fun e w' ⟨u27, m28, he, hm', hu29, hc'⟩ => ⟨_, _, he, ⟨u27, m28, rfl, rfl, hm', hu29⟩, hc'⟩)) ?_
      rintro u27 _ ⟨_, m28, rfl, rfl, hsm28, hu29⟩
      have hscript_0 := hscript_0.mono hsm28
      have hu13 := hu13.mono hsm28
      refine ⟨.inl rfl, ?_⟩
      refine W.cast (m' := m28) (l' := hownT 26 1 encI v16 _ :: hownT 42 4 Leaf.enc v18 _ :: hownT 26 1 encI v5 _ :: hownT 42 4 Leaf.enc v7 _ :: hcells b1 [_, _] 25 :: l) rfl rfl ?_
      refine W.g rfl rfl rfl rfl rfl (.t rfl _) rfl (by decide) (fun hG => Yd.lenR hu29 rfl Try.underlying50 (.t rfl)) ?_
      refine W.g rfl rfl rfl rfl rfl (.t rfl _) rfl (by decide) (fun hG => Yd.eql rfl (.g rfl hb24) (.g rfl hb24)) ?_
      refine W.q rfl rfl rfl rfl (by decide) (Yd.and rfl (.t rfl) .c rfl rfl) ?_
      refine W.q rfl rfl rfl rfl (by decide) (Yd.as rfl (.t rfl)) ?_
      refine W.end ?_
      refine NX.sub (env' := [(4, _)]) ⟨rfl, trivial⟩ ?_
      refine NX.drop (l' := l) (.cons _ (.cons _ (.cons _ (.cons _ (.cons _ (.refl _)))))) ?_
      refine NX.then ?_
      refine Tr.ret' ?_
      refine res1 rfl rfl ?_
      intro w hc
      cases hr
      exact ⟨rfl, (cX_le (x := ⟨m, _⟩) ⟨(hsm12.trans hsm28), [], rfl⟩ hc)⟩
    · have hr := cond_f hb24 hr
      refine W.gF rfl rfl rfl rfl (.t rfl _) hb24 rfl (by decide) (undef) ?_
      refine W.gF rfl rfl rfl rfl (.t rfl _) hb24 rfl (by decide) (.int .i64 ((0 : Int))) ?_
      refine W.gF rfl rfl rfl rfl (.t rfl _) hb24 rfl (by decide) (.bool false) ?_
      refine W.q rfl rfl rfl rfl (by decide) (Yd.and rfl (.t rfl) .c rfl rfl) ?_
      refine W.q rfl rfl rfl rfl (by decide) (Yd.as rfl (.t rfl)) ?_
      refine W.end ?_
      refine NX.sub (env' := [(4, _)]) ⟨rfl, trivial⟩ ?_
      refine NX.drop (l' := l) (.cons _ (.cons _ (.cons _ (.cons _ (.cons _ (.refl _)))))) ?_
      refine NX.then ?_
      refine Tr.ret' ?_
      refine res1 rfl rfl ?_
      intro w hc
      cases hr
      exact ⟨rfl, (cX_le (x := ⟨m, _⟩) ⟨hsm12, [], rfl⟩ hc)⟩

def syllogisttop_TopUnder (fuel : Nat) (script_0 : List Stroke) (a_1 : Label) (b_2 : Label) : Option (Bool) :=
  (hands_Seen fuel script_0 (({ level := a_1.level, parts := a_1.parts } : Label))).bind fun r5 =>
  (hands_Seen fuel script_0 (({ level := b_2.level, parts := b_2.parts } : Label))).bind fun r11 =>
  (syllogisttop_may script_0 (({ level := a_1.level, parts := a_1.parts } : Label))).bind fun r17 =>
  bif (!((!r17) == false) || (syllogisttop_may script_0 (({ level := b_2.level, parts := b_2.parts } : Label))).isSome) then
  (bif ((!r17) || (!(((syllogisttop_may script_0 (({ level := b_2.level, parts := b_2.parts } : Label))).getD false)))) then
  some (((r5.2.2 != (0 : Int)) || (r11.2.2 != (0 : Int))))
  else
  (bif ((r5.2.2 != (0 : Int)) || (r11.2.2 != (0 : Int))) then
  some false
  else
  (syllogistref_Below (({ level := a_1.level, parts := a_1.parts } : Label)) (({ level := b_2.level, parts := b_2.parts } : Label))).bind fun r20 =>
  (bif (!r20) then
  some true
  else
  (page_View r11.2.1 (({ level := a_1.level, parts := a_1.parts } : Label))).bind fun r22 =>
  bif (!((r22.2 == (0 : Int)) == true) || (syllogistref_Leaves r22.1 r5.2.1).isSome) then
  some (((r22.2 == (0 : Int)) && (((syllogistref_Leaves r22.1 r5.2.1).getD false)))) else none))) else none

set_option maxRecDepth 100000 in
set_option maxHeartbeats 4000000 in
theorem syllogisttop_TopUnder_ok (w0 : World) (m : Snap) (l : List HI) (fuel : Nat) (uscript_0 : Value) (script_0 : List Stroke) (hscript_0 : RS rStroke m uscript_0 script_0) (a_1 : Label) (b_2 : Label) (r : Bool) (hr : syllogisttop_TopUnder fuel script_0 a_1 b_2 = some r) (w : World) (hc : cX w0 ⟨m, l⟩ w) :
    Calls Try.prog 11 [uscript_0, .agg #[.int .i64 a_1.level, .int .u32 (a_1.parts.toNat : Int)], .agg #[.int .i64 b_2.level, .int .u32 (b_2.parts.toNat : Int)]].toArray w fun e w' => e = .returned (.bool r) ∧ cX w0 ⟨m, l⟩ w' := by
  unfold syllogisttop_TopUnder at hr
  refine calls_of_Tr (N := 68) Try.func11 rfl hc rfl (Nat.le_of_ble_eq_true rfl) ?_
  refine Tr.seq ?_
  refine Tr.region_f (fun i => Nat.beq i 0 || Nat.beq i 1) ?_
  refine W.e rfl rfl rfl rfl (by decide) (Ef.bx rfl (.t rfl) rfl) ?_
  rintro _ _ ⟨b1, rfl, rfl⟩
  refine ⟨.inl rfl, ?_⟩
  refine W.cast (m' := m) (l' := hcells b1 [_, _] 25 :: l) rfl rfl ?_
  refine W.e rfl rfl rfl rfl (by decide) (Ef.bx rfl (.t rfl) rfl) ?_
  rintro _ _ ⟨b3, rfl, rfl⟩
  refine ⟨.inl rfl, ?_⟩
  refine W.cast (m' := m) (l' := hcells b3 [_, _] 25 :: hcells b1 [_, _] 25 :: l) rfl rfl ?_
  refine W.q rfl rfl rfl rfl (by decide) (Yd.as rfl .c) ?_
  refine W.end ?_
  refine NX.sub (env' := [(0, _), (4, _), (5, _)]) ⟨rfl, rfl, rfl, trivial⟩ ?_
  refine NX.then ?_
  refine Tr.seq ?_
  obtain ⟨r5, hr6, hr⟩ := bind_some hr
  refine Tr.region_f (fun i => Nat.beq i 2) ?_
  refine W.q rfl rfl rfl rfl (by decide) (Yd.mv rfl (.t rfl)) ?_
  refine W.q rfl rfl rfl rfl (by decide) (Yd.ldBs (pos := 1) (us := [_, _]) rfl rfl rfl rfl ON25 US25 SZ25 (.t rfl)) ?_
  refine W.e rfl rfl rfl rfl (by decide) (Ef.call (R := fun z x' => ∃ v7 : Value, ∃ v9 : Value, z = .tuple #[v7, v9, .int .i64 r5.2.2] ∧ x' = ⟨m, hownT 26 1 encI v7 r5.1 :: hownT 42 4 Leaf.enc v9 r5.2.1 :: hcells b3 [.int .i64 b_2.level, .int .u32 (b_2.parts.toNat : Int)] 25 :: hcells b1 [.int .i64 a_1.level, .int .u32 (a_1.parts.toNat : Int)] 25 :: l⟩) rfl Try.func27 rfl rfl (.cons (.t rfl) (.cons (.t rfl) .nil)) (fun w hw => (hands_Seen_ok w0 _ _ fuel _ _ hscript_0 (({ level := a_1.level, parts := a_1.parts } : Label)) _ hr6 w hw).mono fun e w' ⟨v7, v9, he, hc'⟩ => ⟨_, _, he, ⟨v7, v9, rfl, rfl⟩, hc'⟩)) ?_
  rintro _ _ ⟨v7, v9, rfl, rfl⟩
  refine ⟨.inl rfl, ?_⟩
  refine W.cast (m' := m) (l' := hownT 26 1 encI v7 _ :: hownT 42 4 Leaf.enc v9 _ :: hcells b3 [_, _] 25 :: hcells b1 [_, _] 25 :: l) rfl rfl ?_
  refine W.q rfl rfl rfl rfl (by decide) (Yd.mv rfl (.t rfl)) ?_
  refine W.q rfl rfl rfl rfl (by decide) (Yd.ext rfl (.t rfl) rfl) ?_
  refine W.q rfl rfl rfl rfl (by decide) (Yd.ext rfl (.t rfl) rfl) ?_
  refine W.q rfl rfl rfl rfl (by decide) (Yd.ext rfl (.t rfl) rfl) ?_
  refine W.q rfl rfl rfl rfl (by decide) (Yd.as rfl (.t rfl)) ?_
  refine W.q rfl rfl rfl rfl (by decide) (Yd.as rfl (.t rfl)) ?_
  refine W.q rfl rfl rfl rfl (by decide) (Yd.as rfl (.t rfl)) ?_
  refine W.end ?_
  refine NX.sub (env' := [(0, _), (4, _), (5, _), (8, _), (9, _)]) ⟨rfl, rfl, rfl, rfl, rfl, trivial⟩ ?_
  refine NX.drop (l' := hownT 42 4 Leaf.enc v9 _ :: hcells b3 [_, _] 25 :: hcells b1 [_, _] 25 :: l) (.cons _ (.cons_cons _ (.cons_cons _ (.cons_cons _ (.refl _))))) ?_
  refine NX.then ?_
  refine Tr.seq ?_
  obtain ⟨r11, hr12, hr⟩ := bind_some hr
  refine Tr.region_f (fun i => Nat.beq i 2) ?_
  refine W.q rfl rfl rfl rfl (by decide) (Yd.mv rfl (.t rfl)) ?_
  refine W.q rfl rfl rfl rfl (by decide) (Yd.ldBs (pos := 1) (us := [_, _]) rfl rfl rfl rfl ON25 US25 SZ25 (.t rfl)) ?_
  refine W.e rfl rfl rfl rfl (by decide) (Ef.call (R := fun z x' => ∃ v13 : Value, ∃ v15 : Value, z = .tuple #[v13, v15, .int .i64 r11.2.2] ∧ x' = ⟨m, hownT 26 1 encI v13 r11.1 :: hownT 42 4 Leaf.enc v15 r11.2.1 :: hownT 42 4 Leaf.enc v9 r5.2.1 :: hcells b3 [.int .i64 b_2.level, .int .u32 (b_2.parts.toNat : Int)] 25 :: hcells b1 [.int .i64 a_1.level, .int .u32 (a_1.parts.toNat : Int)] 25 :: l⟩) rfl Try.func27 rfl rfl (.cons (.t rfl) (.cons (.t rfl) .nil)) (fun w hw => (hands_Seen_ok w0 _ _ fuel _ _ hscript_0 (({ level := b_2.level, parts := b_2.parts } : Label)) _ hr12 w hw).mono fun e w' ⟨v13, v15, he, hc'⟩ => ⟨_, _, he, ⟨v13, v15, rfl, rfl⟩, hc'⟩)) ?_
  rintro _ _ ⟨v13, v15, rfl, rfl⟩
  refine ⟨.inl rfl, ?_⟩
  refine W.cast (m' := m) (l' := hownT 26 1 encI v13 _ :: hownT 42 4 Leaf.enc v15 _ :: hownT 42 4 Leaf.enc v9 _ :: hcells b3 [_, _] 25 :: hcells b1 [_, _] 25 :: l) rfl rfl ?_
  refine W.q rfl rfl rfl rfl (by decide) (Yd.mv rfl (.t rfl)) ?_
  refine W.q rfl rfl rfl rfl (by decide) (Yd.ext rfl (.t rfl) rfl) ?_
  refine W.q rfl rfl rfl rfl (by decide) (Yd.ext rfl (.t rfl) rfl) ?_
  refine W.q rfl rfl rfl rfl (by decide) (Yd.ext rfl (.t rfl) rfl) ?_
  refine W.q rfl rfl rfl rfl (by decide) (Yd.as rfl (.t rfl)) ?_
  refine W.q rfl rfl rfl rfl (by decide) (Yd.as rfl (.t rfl)) ?_
  refine W.q rfl rfl rfl rfl (by decide) (Yd.as rfl (.t rfl)) ?_
  refine W.end ?_
  refine NX.sub (env' := [(0, _), (4, _), (5, _), (8, _), (9, _), (11, _), (12, _)]) ⟨rfl, rfl, rfl, rfl, rfl, rfl, rfl, trivial⟩ ?_
  refine NX.drop (l' := hownT 42 4 Leaf.enc v15 _ :: hownT 42 4 Leaf.enc v9 _ :: hcells b3 [_, _] 25 :: hcells b1 [_, _] 25 :: l) (.cons _ (.cons_cons _ (.cons_cons _ (.cons_cons _ (.cons_cons _ (.refl _)))))) ?_
  refine NX.then ?_
  refine Tr.seq ?_
  refine Tr.seq ?_
  obtain ⟨r17, hr18, hr⟩ := bind_some hr
  obtain ⟨ha19, hr⟩ := guard_some hr
  refine Tr.region_f (fun _ => false) ?_
  refine W.q rfl rfl rfl rfl (by decide) (Yd.mv rfl (.t rfl)) ?_
  refine W.q rfl rfl rfl rfl (by decide) (Yd.ldBs (pos := 3) (us := [_, _]) rfl rfl rfl rfl ON25 US25 SZ25 (.t rfl)) ?_
  refine W.q rfl rfl rfl rfl (by decide) (Yd.call (v := .bool r17) rfl Try.func30 rfl rfl (.cons (.t rfl) (.cons (.t rfl) .nil)) (fun x' hx w hw => syllogisttop_may_ok w0 x'.m x'.l _ _ (hscript_0.mono hx.1) (({ level := a_1.level, parts := a_1.parts } : Label)) _ hr18 w hw)) ?_
  refine W.q rfl rfl rfl rfl (by decide) (Yd.not rfl (.t rfl)) ?_
  refine W.q rfl rfl rfl rfl (by decide) (Yd.mv rfl (.t rfl)) ?_
  refine W.g rfl rfl rfl rfl rfl (.t rfl _) rfl (by decide) (fun hG => Yd.mv rfl (.t rfl)) ?_
  refine W.g rfl rfl rfl rfl rfl (.t rfl _) rfl (by decide) (fun hG => Yd.ldBs (pos := 2) (us := [_, _]) rfl rfl rfl rfl ON25 US25 SZ25 (.t rfl)) ?_
  refine W.g rfl rfl rfl rfl rfl (.t rfl _) rfl (by decide) (fun hG => Yd.call (v := .bool ((((syllogisttop_may script_0 (({ level := b_2.level, parts := b_2.parts } : Label))).getD false)))) rfl Try.func30 rfl rfl (.cons (.g rfl hG) (.cons (.g rfl hG) .nil)) (fun x' hx w hw => syllogisttop_may_ok w0 x'.m x'.l _ _ (hscript_0.mono hx.1) (({ level := b_2.level, parts := b_2.parts } : Label)) _ (gd_get (d := false) ha19 hG) w hw)) ?_
  refine W.g rfl rfl rfl rfl rfl (.t rfl _) rfl (by decide) (fun hG => Yd.not rfl (.g rfl hG)) ?_
  refine W.q rfl rfl rfl rfl (by decide) (Yd.or rfl (.t rfl) .c rfl rfl) ?_
  refine W.end ?_
  refine NX.sub (env' := [(4, _), (5, _), (8, _), (9, _), (11, _), (12, _), (38, _)]) ⟨rfl, rfl, rfl, rfl, rfl, rfl, rfl, trivial⟩ ?_
  refine NX.then ?_
  refine Tr.cond (.t rfl) (fun hb => ?_) (fun hb => ?_)
  · have hr := cond_t hb hr
    refine Tr.seq ?_
    refine Tr.region_f (fun _ => false) ?_
    refine W.q rfl rfl rfl rfl (by decide) (Yd.mv rfl (.t rfl)) ?_
    refine W.q rfl rfl rfl rfl (by decide) (Yd.neq rfl (.t rfl) .c) ?_
    refine W.q rfl rfl rfl rfl (by decide) (Yd.mv rfl (.t rfl)) ?_
    refine W.g rfl rfl rfl rfl rfl (.t rfl _) rfl (by decide) (fun hG => Yd.mv rfl (.t rfl)) ?_
    refine W.g rfl rfl rfl rfl rfl (.t rfl _) rfl (by decide) (fun hG => Yd.neq rfl (.g rfl hG) .c) ?_
    refine W.q rfl rfl rfl rfl (by decide) (Yd.or rfl (.t rfl) .c rfl rfl) ?_
    refine W.q rfl rfl rfl rfl (by decide) (Yd.as rfl (.t rfl)) ?_
    refine W.end ?_
    refine NX.sub (env' := [(6, _)]) ⟨rfl, trivial⟩ ?_
    refine NX.drop (l' := l) (.cons _ (.cons _ (.cons _ (.cons _ (.refl _))))) ?_
    refine NX.then ?_
    refine Tr.ret' (RT.then ?_)
    refine res1 rfl rfl ?_
    intro w hc
    cases hr
    exact ⟨rfl, hc⟩
  · have hr := cond_f hb hr
    refine Tr.skip' ?_
    refine NX.then ?_
    refine Tr.seq ?_
    refine Tr.seq ?_
    refine Tr.region_f (fun _ => false) ?_
    refine W.q rfl rfl rfl rfl (by decide) (Yd.mv rfl (.t rfl)) ?_
    refine W.q rfl rfl rfl rfl (by decide) (Yd.neq rfl (.t rfl) .c) ?_
    refine W.q rfl rfl rfl rfl (by decide) (Yd.mv rfl (.t rfl)) ?_
    refine W.g rfl rfl rfl rfl rfl (.t rfl _) rfl (by decide) (fun hG => Yd.mv rfl (.t rfl)) ?_
    refine W.g rfl rfl rfl rfl rfl (.t rfl _) rfl (by decide) (fun hG => Yd.neq rfl (.g rfl hG) .c) ?_
    refine W.q rfl rfl rfl rfl (by decide) (Yd.or rfl (.t rfl) .c rfl rfl) ?_
    refine W.end ?_
    refine NX.sub (env' := [(4, _), (5, _), (8, _), (11, _), (50, _)]) ⟨rfl, rfl, rfl, rfl, rfl, trivial⟩ ?_
    refine NX.then ?_
    refine Tr.cond (.t rfl) (fun hb => ?_) (fun hb => ?_)
    · have hr := cond_t hb hr
      refine Tr.seq ?_
      refine Tr.region_f (fun _ => false) ?_
      refine W.q rfl rfl rfl rfl (by decide) (Yd.as rfl .c) ?_
      refine W.end ?_
      refine NX.sub (env' := [(6, _)]) ⟨rfl, trivial⟩ ?_
      refine NX.drop (l' := l) (.cons _ (.cons _ (.cons _ (.cons _ (.refl _))))) ?_
      refine NX.then ?_
      refine Tr.ret' (RT.then ?_)
      refine res1 rfl rfl ?_
      intro w hc
      cases hr
      exact ⟨rfl, hc⟩
    · have hr := cond_f hb hr
      refine Tr.skip' ?_
      refine NX.then ?_
      refine Tr.seq ?_
      refine Tr.seq ?_
      obtain ⟨r20, hr21, hr⟩ := bind_some hr
      refine Tr.region_f (fun _ => false) ?_
      refine W.q rfl rfl rfl rfl (by decide) (Yd.ldBs (pos := 3) (us := [_, _]) rfl rfl rfl rfl ON25 US25 SZ25 (.t rfl)) ?_
      refine W.q rfl rfl rfl rfl (by decide) (Yd.ldBs (pos := 2) (us := [_, _]) rfl rfl rfl rfl ON25 US25 SZ25 (.t rfl)) ?_
      refine W.q rfl rfl rfl rfl (by decide) (Yd.call (v := .bool r20) rfl Try.func19 rfl rfl (.cons (.t rfl) (.cons (.t rfl) .nil)) (fun x' hx w hw => syllogistref_Below_ok w0 x'.m x'.l (({ level := a_1.level, parts := a_1.parts } : Label)) (({ level := b_2.level, parts := b_2.parts } : Label)) _ hr21 w hw)) ?_
      refine W.q rfl rfl rfl rfl (by decide) (Yd.not rfl (.t rfl)) ?_
      refine W.end ?_
      refine NX.sub (env' := [(4, _), (8, _), (11, _), (54, _)]) ⟨rfl, rfl, rfl, rfl, trivial⟩ ?_
      refine NX.drop (l' := hownT 42 4 Leaf.enc v15 _ :: hownT 42 4 Leaf.enc v9 _ :: hcells b1 [_, _] 25 :: l) (.cons_cons _ (.cons_cons _ (.cons _ (.cons_cons _ (.refl _))))) ?_
      refine NX.then ?_
      refine Tr.cond (.t rfl) (fun hb => ?_) (fun hb => ?_)
      · have hr := cond_t hb hr
        refine Tr.seq ?_
        refine Tr.region_f (fun _ => false) ?_
        refine W.q rfl rfl rfl rfl (by decide) (Yd.as rfl .c) ?_
        refine W.end ?_
        refine NX.sub (env' := [(6, _)]) ⟨rfl, trivial⟩ ?_
        refine NX.drop (l' := l) (.cons _ (.cons _ (.cons _ (.refl _)))) ?_
        refine NX.then ?_
        refine Tr.ret' (RT.then ?_)
        refine res1 rfl rfl ?_
        intro w hc
        cases hr
        exact ⟨rfl, hc⟩
      · have hr := cond_f hb hr
        refine Tr.skip' ?_
        refine NX.then ?_
        refine Tr.seq ?_
        obtain ⟨r22, hr23, hr⟩ := bind_some hr
        refine Tr.region_f (fun i => Nat.beq i 2) ?_
        refine W.q rfl rfl rfl rfl (by decide) (Yd.mv rfl (.t rfl)) ?_
        refine W.q rfl rfl rfl rfl (by decide) (Yd.ldBs (pos := 2) (us := [_, _]) rfl rfl rfl rfl ON25 US25 SZ25 (.t rfl)) ?_
        refine W.e rfl rfl rfl rfl (by decide) (Ef.call (R := fun z x' => ∃ v24 : Value, z = .tuple #[v24, .int .i64 r22.2] ∧ x' = ⟨m, hownT 42 4 Leaf.enc v24 r22.1 :: hownT 42 4 Leaf.enc v15 r11.2.1 :: hownT 42 4 Leaf.enc v9 r5.2.1 :: hcells b1 [.int .i64 a_1.level, .int .u32 (a_1.parts.toNat : Int)] 25 :: l⟩) rfl Try.func12 rfl rfl (.cons (.t rfl) (.cons (.t rfl) .nil)) (by intro w hw; obtain ⟨m2, hm2, hc2, ⟨L2, hl1, hl2⟩, hback⟩ := cX_lend (p := 0) hw rfl lone_own; have hL1 : RS rLeaf m2 _ _ := RS_of_own hl1 hl2; exact (page_View_ok w0 m2 _ _ _ hL1 (({ level := a_1.level, parts := a_1.parts } : Label)) _ hr23 w hc2).mono fun e w' ⟨v24, he, hc'⟩ => ⟨_, _, he, ⟨v24, rfl, rfl⟩, (hback m2 _ 1 w' (.refl _) rfl).2 hc'⟩)) ?_
        rintro _ _ ⟨v24, rfl, rfl⟩
        refine ⟨.inl rfl, ?_⟩
        refine W.cast (m' := m) (l' := hownT 42 4 Leaf.enc v24 _ :: hownT 42 4 Leaf.enc v15 _ :: hownT 42 4 Leaf.enc v9 _ :: hcells b1 [_, _] 25 :: l) rfl rfl ?_
        refine W.q rfl rfl rfl rfl (by decide) (Yd.mv rfl (.t rfl)) ?_
        refine W.q rfl rfl rfl rfl (by decide) (Yd.ext rfl (.t rfl) rfl) ?_
        refine W.q rfl rfl rfl rfl (by decide) (Yd.ext rfl (.t rfl) rfl) ?_
        refine W.q rfl rfl rfl rfl (by decide) (Yd.as rfl (.t rfl)) ?_
        refine W.q rfl rfl rfl rfl (by decide) (Yd.as rfl (.t rfl)) ?_
        refine W.end ?_
        refine NX.sub (env' := [(8, _), (13, _), (14, _)]) ⟨rfl, rfl, rfl, trivial⟩ ?_
        refine NX.drop (l' := hownT 42 4 Leaf.enc v24 _ :: hownT 42 4 Leaf.enc v9 _ :: l) (.cons_cons _ (.cons _ (.cons_cons _ (.cons _ (.refl _))))) ?_
        refine NX.then ?_
        refine Tr.seq ?_
        obtain ⟨ha26, hr⟩ := guard_some hr
        refine Tr.region_f (fun _ => false) ?_
        refine W.q rfl rfl rfl rfl (by decide) (Yd.mv rfl (.t rfl)) ?_
        refine W.q rfl rfl rfl rfl (by decide) (Yd.eql rfl (.t rfl) .c) ?_
        refine W.q rfl rfl rfl rfl (by decide) (Yd.mv rfl (.t rfl)) ?_
        refine W.g rfl rfl rfl rfl rfl (.t rfl _) rfl (by decide) (fun hG => Yd.mv rfl (.t rfl)) ?_
        refine W.g rfl rfl rfl rfl rfl (.t rfl _) rfl (by decide) (fun hG => Yd.mv rfl (.t rfl)) ?_
        refine W.g rfl rfl rfl rfl rfl (.t rfl _) rfl (by decide) (fun hG => Yd.call (v := .bool ((((syllogistref_Leaves r22.1 r5.2.1).getD false)))) rfl Try.func14 rfl rfl (.cons (.g rfl hG) (.cons (.g rfl hG) .nil)) (by intro x' hx w hw; obtain ⟨p0, p1, hp0, hp1⟩ := hx.at2 (a := 0) (b := 1) rfl rfl rfl; obtain ⟨m1, hm1, hc1, ⟨L1, hl0a, hl0b'⟩, hback1⟩ := cX_lend hw hp0 lone_own; obtain ⟨m2, hm2', hc2, ⟨L2, hl1a, hl1b⟩, hback2⟩ := cX_lend hc1 hp1 lone_own; have hm2 := hm1.trans hm2'; have hl0b : ∀ q ∈ L1, m2 q.1 = some q.2 := fun q hq => hm2' _ _ (hl0b' q hq); have hL1 : RS rLeaf m2 _ _ := RS_of_own hl0a hl0b; have hL2 : RS rLeaf m2 _ _ := RS_of_own hl1a hl1b; exact (syllogistref_Leaves_ok w0 m2 _ _ _ hL1 _ _ hL2 _ (gd_get (d := false) ha26 hG) w hc2).mono fun e w' ⟨he, hc'⟩ => ⟨he, (hback1 m1 _ _ w' (.refl _) hp0).2 ((hback2 m2 _ _ w' (.refl _) hp1).2 hc')⟩)) ?_
        refine W.q rfl rfl rfl rfl (by decide) (Yd.and rfl (.t rfl) .c rfl rfl) ?_
        refine W.q rfl rfl rfl rfl (by decide) (Yd.as rfl (.t rfl)) ?_
        refine W.end ?_
        refine NX.sub (env' := [(6, _)]) ⟨rfl, trivial⟩ ?_
        refine NX.drop (l' := l) (.cons _ (.cons _ (.refl _))) ?_
        refine NX.then ?_
        refine Tr.ret' ?_
        refine res1 rfl rfl ?_
        intro w hc
        cases hr
        exact ⟨rfl, hc⟩

def syllogisttop_TopTwo_k34 (script_0 : List Stroke) (who_2 : Label) (fuel : Nat) (mixed_30 : List Stroke) : Option (Bool) :=
  (hands_Seen fuel script_0 (({ level := who_2.level, parts := who_2.parts } : Label))).bind fun r36 =>
  (hands_Seen fuel mixed_30 (({ level := who_2.level, parts := who_2.parts } : Label))).bind fun r42 =>
  (syllogisttop_may script_0 (({ level := who_2.level, parts := who_2.parts } : Label))).bind fun r48 =>
  (bif ((!r48) || (decide ((mixed_30.length : Int) > (30 : Int)))) then
  some (((r36.2.2 != (0 : Int)) || (r42.2.2 != (0 : Int))))
  else
  bif (!(((r36.2.2 == (0 : Int)) && (r42.2.2 == (0 : Int))) == true) || (syllogistref_Codes r36.1 r42.1).isSome) then
  bif (!((((r36.2.2 == (0 : Int)) && (r42.2.2 == (0 : Int))) && (((syllogistref_Codes r36.1 r42.1).getD false))) == true) || (syllogistref_Leaves r36.2.1 r42.2.1).isSome) then
  some (((((r36.2.2 == (0 : Int)) && (r42.2.2 == (0 : Int))) && (((syllogistref_Codes r36.1 r42.1).getD false))) && (((syllogistref_Leaves r36.2.1 r42.2.1).getD false)))) else none else none)

def syllogisttop_TopTwo_k68 (mixed_25 : List Stroke) (nx55 : ((List Stroke) → Option (Bool))) (y58 : Stroke) (k_67 : Int) : Option (Bool) :=
  bif decide (0 ≤ k_67 ∧ k_67 ≤ (mixed_25.length : Int)) then
  bif decide ((([] : List Stroke)).length + ((mixed_25.take k_67.toNat)).length ≤ 2513169434916) then
  bif decide (((([] : List Stroke) ++ (mixed_25.take k_67.toNat))).length + (([({ kind := y58.kind, who := ({ level := y58.who.level, parts := y58.who.parts } : Label), path := y58.path, text := y58.text } : Stroke)] : List Stroke)).length ≤ 2513169434916) then
  bif decide ((((([] : List Stroke) ++ (mixed_25.take k_67.toNat)) ++ ([({ kind := y58.kind, who := ({ level := y58.who.level, parts := y58.who.parts } : Label), path := y58.path, text := y58.text } : Stroke)] : List Stroke))).length + ((mixed_25.drop k_67.toNat)).length ≤ 2513169434916) then
  nx55 (((([] : List Stroke) ++ (mixed_25.take k_67.toNat)) ++ ([({ kind := y58.kind, who := ({ level := y58.who.level, parts := y58.who.parts } : Label), path := y58.path, text := y58.text } : Stroke)] : List Stroke)) ++ (mixed_25.drop k_67.toNat)) else none else none else none else none

def syllogisttop_TopTwo_b54 (others_1 : List Stroke) (who_2 : Label) (at_3 : List (BitVec 8)) (t_53 : Int) (mixed_25 : List Stroke) (nx55 : (List Stroke) → Option (Bool)) : Option (Bool) :=
  (geti others_1 t_53).bind fun y58 =>
  (syllogistref_Below (({ level := y58.who.level, parts := y58.who.parts } : Label)) (({ level := who_2.level, parts := who_2.parts } : Label))).bind fun r65 =>
  (bif r65 then
  nx55 mixed_25
  else
  (bif (decide (t_53 < (at_3.length : Int))) then
  (geti at_3 t_53).bind fun y662 =>
  bif decide ((w64 ((mixed_25.length : Int) + (1 : Int))) ≠ 0) then
  syllogisttop_TopTwo_k68 mixed_25 nx55 y58 ((((y662.toNat : Int)).tmod ((w64 ((mixed_25.length : Int) + (1 : Int)))))) else none
  else
  syllogisttop_TopTwo_k68 mixed_25 nx55 y58 ((0 : Int))))

def syllogisttop_TopTwo (fuel : Nat) (script_0 : List Stroke) (others_1 : List Stroke) (who_2 : Label) (at_3 : List (BitVec 8)) : Option (Bool) :=
  (hands_Seen fuel (([({ kind := (1 : Int), who := ({ level := (0 : Int), parts := (0#32) } : Label), path := ([(0 : Int)] : List Int), text := (0 : Int) } : Stroke)] : List Stroke)) (({ level := (0 : Int), parts := (0#32) } : Label))).bind fun r9 =>
  (bif (((r9.2.2 != (0 : Int)) || ((r9.1.length : Int) != (1 : Int))) || ((r9.2.1.length : Int) != (1 : Int))) then
  some false
  else
  (syllogisttop_purge script_0 (({ level := who_2.level, parts := who_2.parts } : Label))).bind fun r15 =>
  forK (σ := (List Stroke)) (fun i s nx_ => syllogisttop_TopTwo_b54 others_1 who_2 at_3 i s nx_) (fun s => syllogisttop_TopTwo_k34 script_0 who_2 fuel s) ((others_1.length : Int) - (0 : Int)).toNat (0 : Int) r15)

set_option maxRecDepth 100000 in
set_option maxHeartbeats 4000000 in
theorem syllogisttop_TopTwo_ok (w0 : World) (m : Snap) (l : List HI) (fuel : Nat) (uscript_0 : Value) (script_0 : List Stroke) (hscript_0 : RS rStroke m uscript_0 script_0) (uothers_1 : Value) (others_1 : List Stroke) (hothers_1 : RS rStroke m uothers_1 others_1) (who_2 : Label) (uat_3 : Value) (at_3 : List (BitVec 8)) (hat_3 : RS rY m uat_3 at_3) (r : Bool) (hr : syllogisttop_TopTwo fuel script_0 others_1 who_2 at_3 = some r) (w : World) (hc : cX w0 ⟨m, l⟩ w) :
    Calls Try.prog 10 [uscript_0, uothers_1, .agg #[.int .i64 who_2.level, .int .u32 (who_2.parts.toNat : Int)], uat_3].toArray w fun e w' => e = .returned (.bool r) ∧ cX w0 ⟨m, l⟩ w' := by
  unfold syllogisttop_TopTwo at hr
  refine calls_of_Tr (N := 128) Try.func10 rfl hc rfl (Nat.le_of_ble_eq_true rfl) ?_
  refine Tr.seq ?_
  refine Tr.region_f (fun i => Nat.beq i 0) ?_
  refine W.e rfl rfl rfl rfl (by decide) (Ef.bx rfl (.t rfl) rfl) ?_
  rintro _ _ ⟨b1, rfl, rfl⟩
  refine ⟨.inl rfl, ?_⟩
  refine W.cast (m' := m) (l' := hcells b1 [_, _] 25 :: l) rfl rfl ?_
  refine W.q rfl rfl rfl rfl (by decide) (Yd.as rfl .c) ?_
  refine W.end ?_
  refine NX.sub (env' := [(0, _), (1, _), (3, _), (6, _)]) ⟨rfl, rfl, rfl, rfl, trivial⟩ ?_
  refine NX.then ?_
  refine Tr.seq ?_
  refine Tr.seq ?_
  obtain ⟨r9, hr10, hr⟩ := bind_some hr
  refine Tr.region_f (fun i => Nat.beq i 0 || Nat.beq i 2 || Nat.beq i 4) ?_
  refine W.e rfl rfl rfl rfl (by decide) (Ef.bsT (enc := encI) (vs := [_]) (ys := [(0 : Int)]) (fun _ => rfl) IF3 rfl Try.underlying33 (by decide) rfl (.cons .c .nil) rfl rfl (by decide)) ?_
  rintro v3 _ rfl
  refine ⟨.inl rfl, ?_⟩
  refine W.cast (m' := m) (l' := hownT 3 1 encI v3 _ :: hcells b1 [_, _] 25 :: l) rfl rfl ?_
  refine W.q rfl rfl rfl rfl (by decide) (Yd.bld1 (cells := [.int .i64 ((1 : Int)), .int .i64 ((0 : Int)), .int .u32 (((0#32)).toNat : Int), v3, .int .i64 ((0 : Int))]) (Sl.own (p := 0) rfl) rfl ZI47 PL47 (.cons .c (.cons (.t rfl) .nil)) (by rintro ⟨_, _, _, rfl⟩; rfl)) ?_
  refine W.e rfl rfl rfl rfl (by decide) (Ef.frz (enc := encI) (n := 1) (p := 0) (xs := ([(0 : Int)] : List Int)) (fun _ => rfl) rfl (fun m7 hsm7 hu8 => Ef.bsW (vs := [.agg #[.int .i64 ((1 : Int)), .int .i64 ((0 : Int)), .int .u32 (((0#32)).toNat : Int), v3, .int .i64 ((0 : Int))]]) (cells := ([.int .i64 ((1 : Int)), .int .i64 ((0 : Int)), .int .u32 (((0#32)).toNat : Int), v3, .int .i64 ((0 : Int))] : List Value)) IF47 rfl Try.underlying50 (by decide) rfl (.cons (.t rfl) .nil) rfl rfl rfl (by decide))) ?_
  rintro v5 _ ⟨m7, hsm7, hu8, rfl⟩
  have hscript_0 := hscript_0.mono hsm7
  have hothers_1 := hothers_1.mono hsm7
  have hat_3 := hat_3.mono hsm7
  refine ⟨.inl rfl, ?_⟩
  refine W.cast (m' := m7) (l' := hown 47 5 v5 _ _ :: hcells b1 [_, _] 25 :: l) rfl rfl ?_
  refine W.q rfl rfl rfl rfl (by decide) (Yd.bld (cells := [.int .i64 ((0 : Int)), .int .u32 (((0#32)).toNat : Int)]) rfl ZI25 PL25 .nil rfl) ?_
  refine W.e rfl rfl rfl rfl (by decide) (Ef.call (R := fun z x' => ∃ v11 : Value, ∃ v13 : Value, z = .tuple #[v11, v13, .int .i64 r9.2.2] ∧ x' = ⟨m7, hownT 26 1 encI v11 r9.1 :: hownT 42 4 Leaf.enc v13 r9.2.1 :: hown 47 5 v5 (([({ kind := (1 : Int), who := ({ level := (0 : Int), parts := (0#32) } : Label), path := ([(0 : Int)] : List Int), text := (0 : Int) } : Stroke)] : List Stroke)).length ([.int .i64 ((1 : Int)), .int .i64 ((0 : Int)), .int .u32 (((0#32)).toNat : Int), v3, .int .i64 ((0 : Int))] : List Value) :: hcells b1 [.int .i64 who_2.level, .int .u32 (who_2.parts.toNat : Int)] 25 :: l⟩) rfl Try.func27 rfl rfl (.cons (.t rfl) (.cons (.t rfl) .nil)) (by intro w hw; obtain ⟨m2, hm2, hc2, ⟨L2, hl1, hl2⟩, hback⟩ := cX_lend (p := 0) hw rfl lone_own; have hL1 := RS_of_rws rfl hl1 ((Rws.one (MK47 (({ kind := (1 : Int), who := ({ level := (0 : Int), parts := (0#32) } : Label), path := ([(0 : Int)] : List Int), text := (0 : Int) } : Stroke)) hu8)).mono hm2) hl2; exact (hands_Seen_ok w0 m2 _ fuel _ _ hL1 (({ level := (0 : Int), parts := (0#32) } : Label)) _ hr10 w hc2).mono fun e w' ⟨v11, v13, he, hc'⟩ => ⟨_, _, he, ⟨v11, v13, rfl, rfl⟩, (hback m2 _ 2 w' (.refl _) rfl).2 hc'⟩)) ?_
  rintro _ _ ⟨v11, v13, rfl, rfl⟩
  refine ⟨.inl rfl, ?_⟩
  refine W.cast (m' := m7) (l' := hownT 26 1 encI v11 _ :: hownT 42 4 Leaf.enc v13 _ :: hown 47 5 v5 _ _ :: hcells b1 [_, _] 25 :: l) rfl rfl ?_
  refine W.q rfl rfl rfl rfl (by decide) (Yd.mv rfl (.t rfl)) ?_
  refine W.q rfl rfl rfl rfl (by decide) (Yd.ext rfl (.t rfl) rfl) ?_
  refine W.q rfl rfl rfl rfl (by decide) (Yd.ext rfl (.t rfl) rfl) ?_
  refine W.q rfl rfl rfl rfl (by decide) (Yd.ext rfl (.t rfl) rfl) ?_
  refine W.q rfl rfl rfl rfl (by decide) (Yd.as rfl (.t rfl)) ?_
  refine W.q rfl rfl rfl rfl (by decide) (Yd.as rfl (.t rfl)) ?_
  refine W.q rfl rfl rfl rfl (by decide) (Yd.as rfl (.t rfl)) ?_
  refine W.end ?_
  refine NX.sub (env' := [(0, _), (1, _), (3, _), (6, _), (9, _), (10, _), (11, _)]) ⟨rfl, rfl, rfl, rfl, rfl, rfl, rfl, trivial⟩ ?_
  refine NX.drop (l' := hownT 26 1 encI v11 _ :: hownT 42 4 Leaf.enc v13 _ :: hcells b1 [_, _] 25 :: l) (.cons_cons _ (.cons_cons _ (.cons _ (.cons_cons _ (.refl _))))) ?_
  refine NX.then ?_
  refine Tr.seq ?_
  refine Tr.region_f (fun _ => false) ?_
  refine W.q rfl rfl rfl rfl (by decide) (Yd.mv rfl (.t rfl)) ?_
  refine W.q rfl rfl rfl rfl (by decide) (Yd.neq rfl (.t rfl) .c) ?_
  refine W.q rfl rfl rfl rfl (by decide) (Yd.mv rfl (.t rfl)) ?_
  refine W.g rfl rfl rfl rfl rfl (.t rfl _) rfl (by decide) (fun hG => Yd.mv rfl (.t rfl)) ?_
  refine W.g rfl rfl rfl rfl rfl (.t rfl _) rfl (by decide) (fun hG => Yd.lenO (p := 0) rfl rfl Try.underlying51 (.g rfl hG)) ?_
  refine W.g rfl rfl rfl rfl rfl (.t rfl _) rfl (by decide) (fun hG => Yd.neq rfl (.g rfl hG) .c) ?_
  refine W.q rfl rfl rfl rfl (by decide) (Yd.or rfl (.t rfl) .c rfl rfl) ?_
  refine W.q rfl rfl rfl rfl (by decide) (Yd.mv rfl (.t rfl)) ?_
  refine W.g rfl rfl rfl rfl rfl (.t rfl _) rfl (by decide) (fun hG => Yd.mv rfl (.t rfl)) ?_
  refine W.g rfl rfl rfl rfl rfl (.t rfl _) rfl (by decide) (fun hG => Yd.lenO (p := 1) rfl rfl Try.underlying22 (.g rfl hG)) ?_
  refine W.g rfl rfl rfl rfl rfl (.t rfl _) rfl (by decide) (fun hG => Yd.neq rfl (.g rfl hG) .c) ?_
  refine W.q rfl rfl rfl rfl (by decide) (Yd.or rfl (.t rfl) .c rfl rfl) ?_
  refine W.end ?_
  refine NX.sub (env' := [(0, _), (1, _), (3, _), (6, _), (42, _)]) ⟨rfl, rfl, rfl, rfl, rfl, trivial⟩ ?_
  refine NX.drop (l' := hcells b1 [_, _] 25 :: l) (.cons _ (.cons _ (.cons_cons _ (.refl _)))) ?_
  refine NX.then ?_
  refine Tr.cond (.t rfl) (fun hb => ?_) (fun hb => ?_)
  · have hr := cond_t hb hr
    refine Tr.seq ?_
    refine Tr.region_f (fun _ => false) ?_
    refine W.q rfl rfl rfl rfl (by decide) (Yd.as rfl .c) ?_
    refine W.end ?_
    refine NX.sub (env' := [(8, _)]) ⟨rfl, trivial⟩ ?_
    refine NX.drop (l' := l) (.cons _ (.refl _)) ?_
    refine NX.then ?_
    refine Tr.ret' (RT.then ?_)
    refine res1 rfl rfl ?_
    intro w hc
    cases hr
    exact ⟨rfl, (cX_le (x := ⟨m, _⟩) ⟨hsm7, [], rfl⟩ hc)⟩
  · have hr := cond_f hb hr
    refine Tr.skip' ?_
    refine NX.then ?_
    refine Tr.seq ?_
    obtain ⟨r15, hr16, hr⟩ := bind_some hr
    refine Tr.region_f (fun i => Nat.beq i 2) ?_
    refine W.q rfl rfl rfl rfl (by decide) (Yd.mv rfl (.t rfl)) ?_
    refine W.q rfl rfl rfl rfl (by decide) (Yd.ldBs (pos := 0) (us := [_, _]) rfl rfl rfl rfl ON25 US25 SZ25 (.t rfl)) ?_
    refine W.e rfl rfl rfl rfl (by decide) (Ef.call (R := fun z x' => ∃ u17 : Value, ∃ m18 : Snap, z = u17 ∧ x' = ⟨m18, hcells b1 [.int .i64 who_2.level, .int .u32 (who_2.parts.toNat : Int)] 25 :: l⟩ ∧ Sle m7 m18 ∧ RS rStroke m18 u17 r15) rfl Try.func29 rfl rfl (.cons (.t rfl) (.cons (.t rfl) .nil)) (fun w hw => (syllogisttop_purge_ok w0 _ _ _ _ hscript_0 (({ level := who_2.level, parts := who_2.parts } : Label)) _ hr16 w hw).mono fun e w' ⟨u17, m18, he, hm', hu19, hc'⟩ => ⟨_, _, he, ⟨u17, m18, rfl, rfl, hm', hu19⟩, hc'⟩)) ?_
    rintro u17 _ ⟨_, m18, rfl, rfl, hsm18, hu19⟩
    have hscript_0 := hscript_0.mono hsm18
    have hothers_1 := hothers_1.mono hsm18
    have hat_3 := hat_3.mono hsm18
    have hu8 := hu8.mono hsm18
    refine ⟨.inl rfl, ?_⟩
    refine W.cast (m' := m18) (l' := hcells b1 [_, _] 25 :: l) rfl rfl ?_
    refine W.q rfl rfl rfl rfl (by decide) (Yd.as rfl (.t rfl)) ?_
    refine W.end ?_
    refine NX.sub (env' := [(0, _), (1, _), (3, _), (6, _), (12, _)]) ⟨rfl, rfl, rfl, rfl, rfl, trivial⟩ ?_
    refine NX.then ?_
    refine Tr.seq ?_
    refine Tr.seq ?_
    refine Tr.region_f (fun _ => false) ?_
    refine W.q rfl rfl rfl rfl (by decide) (Yd.mv rfl (.t rfl)) ?_
    refine W.q rfl rfl rfl rfl (by decide) (Yd.lenR hothers_1 rfl Try.underlying50 (.t rfl)) ?_
    refine W.q rfl rfl rfl rfl (by decide) (Yd.mv rfl .c) ?_
    refine W.end ?_
    refine NX.sub (env' := [(0, _), (3, _), (6, _), (12, _), (46, _), (47, _), (48, _)]) ⟨rfl, rfl, rfl, rfl, rfl, rfl, rfl, trivial⟩ ?_
    refine NX.then ?_
    refine Tr.join (S := fun env x => ∃ mixed_30 : List Stroke, ∃ m33 : Snap, ∃ u31 : Value, Sle m18 m33 ∧ RS rStroke m33 u31 mixed_30 ∧ env = [(0, uscript_0), (6, bp b1 0), (12, u31)] ∧ x = ⟨m33, hcells b1 [.int .i64 who_2.level, .int .u32 (who_2.parts.toNat : Int)] 25 :: l⟩ ∧ syllogisttop_TopTwo_k34 script_0 who_2 fuel mixed_30 = some r) ?_ (fun hk35 => ?_)
    · rintro _ _ ⟨mixed_30, m33, u31, hsm33, hu32, rfl, rfl, hr⟩
      unfold syllogisttop_TopTwo_k34 at hr
      try dsimp only at hr
      have hscript_0 := hscript_0.mono hsm33
      have hothers_1 := hothers_1.mono hsm33
      have hat_3 := hat_3.mono hsm33
      have hu8 := hu8.mono hsm33
      have hu19 := hu19.mono hsm33
      refine NX.then ?_
      refine Tr.seq ?_
      obtain ⟨r36, hr37, hr⟩ := bind_some hr
      refine Tr.region_f (fun i => Nat.beq i 2) ?_
      refine W.q rfl rfl rfl rfl (by decide) (Yd.mv rfl (.t rfl)) ?_
      refine W.q rfl rfl rfl rfl (by decide) (Yd.ldBs (pos := 0) (us := [_, _]) rfl rfl rfl rfl ON25 US25 SZ25 (.t rfl)) ?_
      refine W.e rfl rfl rfl rfl (by decide) (Ef.call (R := fun z x' => ∃ v38 : Value, ∃ v40 : Value, z = .tuple #[v38, v40, .int .i64 r36.2.2] ∧ x' = ⟨m33, hownT 26 1 encI v38 r36.1 :: hownT 42 4 Leaf.enc v40 r36.2.1 :: hcells b1 [.int .i64 who_2.level, .int .u32 (who_2.parts.toNat : Int)] 25 :: l⟩) rfl Try.func27 rfl rfl (.cons (.t rfl) (.cons (.t rfl) .nil)) (fun w hw => (hands_Seen_ok w0 _ _ fuel _ _ hscript_0 (({ level := who_2.level, parts := who_2.parts } : Label)) _ hr37 w hw).mono fun e w' ⟨v38, v40, he, hc'⟩ => ⟨_, _, he, ⟨v38, v40, rfl, rfl⟩, hc'⟩)) ?_
      rintro _ _ ⟨v38, v40, rfl, rfl⟩
      refine ⟨.inl rfl, ?_⟩
      refine W.cast (m' := m33) (l' := hownT 26 1 encI v38 _ :: hownT 42 4 Leaf.enc v40 _ :: hcells b1 [_, _] 25 :: l) rfl rfl ?_
      refine W.q rfl rfl rfl rfl (by decide) (Yd.mv rfl (.t rfl)) ?_
      refine W.q rfl rfl rfl rfl (by decide) (Yd.ext rfl (.t rfl) rfl) ?_
      refine W.q rfl rfl rfl rfl (by decide) (Yd.ext rfl (.t rfl) rfl) ?_
      refine W.q rfl rfl rfl rfl (by decide) (Yd.ext rfl (.t rfl) rfl) ?_
      refine W.q rfl rfl rfl rfl (by decide) (Yd.as rfl (.t rfl)) ?_
      refine W.q rfl rfl rfl rfl (by decide) (Yd.as rfl (.t rfl)) ?_
      refine W.q rfl rfl rfl rfl (by decide) (Yd.as rfl (.t rfl)) ?_
      refine W.end ?_
      refine NX.sub (env' := [(0, _), (6, _), (12, _), (16, _), (17, _), (18, _)]) ⟨rfl, rfl, rfl, rfl, rfl, rfl, trivial⟩ ?_
      refine NX.then ?_
      refine Tr.seq ?_
      obtain ⟨r42, hr43, hr⟩ := bind_some hr
      refine Tr.region_f (fun i => Nat.beq i 2) ?_
      refine W.q rfl rfl rfl rfl (by decide) (Yd.mv rfl (.t rfl)) ?_
      refine W.q rfl rfl rfl rfl (by decide) (Yd.ldBs (pos := 2) (us := [_, _]) rfl rfl rfl rfl ON25 US25 SZ25 (.t rfl)) ?_
      refine W.e rfl rfl rfl rfl (by decide) (Ef.call (R := fun z x' => ∃ v44 : Value, ∃ v46 : Value, z = .tuple #[v44, v46, .int .i64 r42.2.2] ∧ x' = ⟨m33, hownT 26 1 encI v44 r42.1 :: hownT 42 4 Leaf.enc v46 r42.2.1 :: hownT 26 1 encI v38 r36.1 :: hownT 42 4 Leaf.enc v40 r36.2.1 :: hcells b1 [.int .i64 who_2.level, .int .u32 (who_2.parts.toNat : Int)] 25 :: l⟩) rfl Try.func27 rfl rfl (.cons (.t rfl) (.cons (.t rfl) .nil)) (fun w hw => (hands_Seen_ok w0 _ _ fuel _ _ hu32 (({ level := who_2.level, parts := who_2.parts } : Label)) _ hr43 w hw).mono fun e w' ⟨v44, v46, he, hc'⟩ => ⟨_, _, he, ⟨v44, v46, rfl, rfl⟩, hc'⟩)) ?_
      rintro _ _ ⟨v44, v46, rfl, rfl⟩
      refine ⟨.inl rfl, ?_⟩
      refine W.cast (m' := m33) (l' := hownT 26 1 encI v44 _ :: hownT 42 4 Leaf.enc v46 _ :: hownT 26 1 encI v38 _ :: hownT 42 4 Leaf.enc v40 _ :: hcells b1 [_, _] 25 :: l) rfl rfl ?_
      refine W.q rfl rfl rfl rfl (by decide) (Yd.mv rfl (.t rfl)) ?_
      refine W.q rfl rfl rfl rfl (by decide) (Yd.ext rfl (.t rfl) rfl) ?_
      refine W.q rfl rfl rfl rfl (by decide) (Yd.ext rfl (.t rfl) rfl) ?_
      refine W.q rfl rfl rfl rfl (by decide) (Yd.ext rfl (.t rfl) rfl) ?_
      refine W.q rfl rfl rfl rfl (by decide) (Yd.as rfl (.t rfl)) ?_
      refine W.q rfl rfl rfl rfl (by decide) (Yd.as rfl (.t rfl)) ?_
      refine W.q rfl rfl rfl rfl (by decide) (Yd.as rfl (.t rfl)) ?_
      refine W.end ?_
      refine NX.sub (env' := [(0, _), (6, _), (12, _), (16, _), (17, _), (18, _), (19, _), (20, _), (21, _)]) ⟨rfl, rfl, rfl, rfl, rfl, rfl, rfl, rfl, rfl, trivial⟩ ?_
      refine NX.then ?_
      refine Tr.seq ?_
      refine Tr.seq ?_
      obtain ⟨r48, hr49, hr⟩ := bind_some hr
      refine Tr.region_f (fun _ => false) ?_
      refine W.q rfl rfl rfl rfl (by decide) (Yd.mv rfl (.t rfl)) ?_
      refine W.q rfl rfl rfl rfl (by decide) (Yd.ldBs (pos := 4) (us := [_, _]) rfl rfl rfl rfl ON25 US25 SZ25 (.t rfl)) ?_
      refine W.q rfl rfl rfl rfl (by decide) (Yd.call (v := .bool r48) rfl Try.func30 rfl rfl (.cons (.t rfl) (.cons (.t rfl) .nil)) (fun x' hx w hw => syllogisttop_may_ok w0 x'.m x'.l _ _ (hscript_0.mono hx.1) (({ level := who_2.level, parts := who_2.parts } : Label)) _ hr49 w hw)) ?_
      refine W.q rfl rfl rfl rfl (by decide) (Yd.not rfl (.t rfl)) ?_
      refine W.q rfl rfl rfl rfl (by decide) (Yd.mv rfl (.t rfl)) ?_
      refine W.g rfl rfl rfl rfl rfl (.t rfl _) rfl (by decide) (fun hG => Yd.mv rfl (.t rfl)) ?_
      refine W.g rfl rfl rfl rfl rfl (.t rfl _) rfl (by decide) (fun hG => Yd.lenR hu32 rfl Try.underlying50 (.g rfl hG)) ?_
      refine W.g rfl rfl rfl rfl rfl (.t rfl _) rfl (by decide) (fun hG => Yd.gtr rfl (.g rfl hG) .c) ?_
      refine W.q rfl rfl rfl rfl (by decide) (Yd.or rfl (.t rfl) .c rfl rfl) ?_
      refine W.end ?_
      refine NX.sub (env' := [(16, _), (17, _), (18, _), (19, _), (20, _), (21, _), (105, _)]) ⟨rfl, rfl, rfl, rfl, rfl, rfl, rfl, trivial⟩ ?_
      refine NX.drop (l' := hownT 26 1 encI v44 _ :: hownT 42 4 Leaf.enc v46 _ :: hownT 26 1 encI v38 _ :: hownT 42 4 Leaf.enc v40 _ :: l) (.cons_cons _ (.cons_cons _ (.cons_cons _ (.cons_cons _ (.cons _ (.refl _)))))) ?_
      refine NX.then ?_
      refine Tr.cond (.t rfl) (fun hb => ?_) (fun hb => ?_)
      · have hr := cond_t hb hr
        refine Tr.seq ?_
        refine Tr.region_f (fun _ => false) ?_
        refine W.q rfl rfl rfl rfl (by decide) (Yd.mv rfl (.t rfl)) ?_
        refine W.q rfl rfl rfl rfl (by decide) (Yd.neq rfl (.t rfl) .c) ?_
        refine W.q rfl rfl rfl rfl (by decide) (Yd.mv rfl (.t rfl)) ?_
        refine W.g rfl rfl rfl rfl rfl (.t rfl _) rfl (by decide) (fun hG => Yd.mv rfl (.t rfl)) ?_
        refine W.g rfl rfl rfl rfl rfl (.t rfl _) rfl (by decide) (fun hG => Yd.neq rfl (.g rfl hG) .c) ?_
        refine W.q rfl rfl rfl rfl (by decide) (Yd.or rfl (.t rfl) .c rfl rfl) ?_
        refine W.q rfl rfl rfl rfl (by decide) (Yd.as rfl (.t rfl)) ?_
        refine W.end ?_
        refine NX.sub (env' := [(8, _)]) ⟨rfl, trivial⟩ ?_
        refine NX.drop (l' := l) (.cons _ (.cons _ (.cons _ (.cons _ (.refl _))))) ?_
        refine NX.then ?_
        refine Tr.ret' (RT.then ?_)
        refine res1 rfl rfl ?_
        intro w hc
        cases hr
        exact ⟨rfl, (cX_le (x := ⟨m, _⟩) ⟨((hsm7.trans hsm18).trans hsm33), [], rfl⟩ hc)⟩
      · have hr := cond_f hb hr
        refine Tr.skip' ?_
        refine NX.then ?_
        refine Tr.seq ?_
        obtain ⟨ha50, hr⟩ := guard_some hr
        obtain ⟨ha51, hr⟩ := guard_some hr
        refine Tr.region_f (fun _ => false) ?_
        refine W.q rfl rfl rfl rfl (by decide) (Yd.mv rfl (.t rfl)) ?_
        refine W.q rfl rfl rfl rfl (by decide) (Yd.eql rfl (.t rfl) .c) ?_
        refine W.q rfl rfl rfl rfl (by decide) (Yd.mv rfl (.t rfl)) ?_
        refine W.g rfl rfl rfl rfl rfl (.t rfl _) rfl (by decide) (fun hG => Yd.mv rfl (.t rfl)) ?_
        refine W.g rfl rfl rfl rfl rfl (.t rfl _) rfl (by decide) (fun hG => Yd.eql rfl (.g rfl hG) .c) ?_
        refine W.q rfl rfl rfl rfl (by decide) (Yd.and rfl (.t rfl) .c rfl rfl) ?_
        refine W.q rfl rfl rfl rfl (by decide) (Yd.mv rfl (.t rfl)) ?_
        refine W.g rfl rfl rfl rfl rfl (.t rfl _) rfl (by decide) (fun hG => Yd.mv rfl (.t rfl)) ?_
        refine W.g rfl rfl rfl rfl rfl (.t rfl _) rfl (by decide) (fun hG => Yd.mv rfl (.t rfl)) ?_
        refine W.g rfl rfl rfl rfl rfl (.t rfl _) rfl (by decide) (fun hG => Yd.call (v := .bool ((((syllogistref_Codes r36.1 r42.1).getD false)))) rfl Try.func26 rfl rfl (.cons (.g rfl hG) (.cons (.g rfl hG) .nil)) (by intro x' hx w hw; obtain ⟨p0, p1, hp0, hp1⟩ := hx.at2 (a := 2) (b := 0) rfl rfl rfl; obtain ⟨m1, hm1, hc1, ⟨L1, hl0a, hl0b'⟩, hback1⟩ := cX_lend hw hp0 lone_own; obtain ⟨m2, hm2', hc2, ⟨L2, hl1a, hl1b⟩, hback2⟩ := cX_lend hc1 hp1 lone_own; have hm2 := hm1.trans hm2'; have hl0b : ∀ q ∈ L1, m2 q.1 = some q.2 := fun q hq => hm2' _ _ (hl0b' q hq); have hL1 : RS rI m2 _ _ := RS_of_own hl0a hl0b; have hL2 : RS rI m2 _ _ := RS_of_own hl1a hl1b; exact (syllogistref_Codes_ok w0 m2 _ _ _ hL1 _ _ hL2 _ (gd_get (d := false) ha50 hG) w hc2).mono fun e w' ⟨he, hc'⟩ => ⟨he, (hback1 m1 _ _ w' (.refl _) hp0).2 ((hback2 m2 _ _ w' (.refl _) hp1).2 hc')⟩)) ?_
        refine W.q rfl rfl rfl rfl (by decide) (Yd.and rfl (.t rfl) .c rfl rfl) ?_
        refine W.q rfl rfl rfl rfl (by decide) (Yd.mv rfl (.t rfl)) ?_
        refine W.g rfl rfl rfl rfl rfl (.t rfl _) rfl (by decide) (fun hG => Yd.mv rfl (.t rfl)) ?_
        refine W.g rfl rfl rfl rfl rfl (.t rfl _) rfl (by decide) (fun hG => Yd.mv rfl (.t rfl)) ?_
        refine W.g rfl rfl rfl rfl rfl (.t rfl _) rfl (by decide) (fun hG => Yd.call (v := .bool ((((syllogistref_Leaves r36.2.1 r42.2.1).getD false)))) rfl Try.func14 rfl rfl (.cons (.g rfl hG) (.cons (.g rfl hG) .nil)) (by intro x' hx w hw; obtain ⟨p0, p1, hp0, hp1⟩ := hx.at2 (a := 3) (b := 1) rfl rfl rfl; obtain ⟨m1, hm1, hc1, ⟨L1, hl0a, hl0b'⟩, hback1⟩ := cX_lend hw hp0 lone_own; obtain ⟨m2, hm2', hc2, ⟨L2, hl1a, hl1b⟩, hback2⟩ := cX_lend hc1 hp1 lone_own; have hm2 := hm1.trans hm2'; have hl0b : ∀ q ∈ L1, m2 q.1 = some q.2 := fun q hq => hm2' _ _ (hl0b' q hq); have hL1 : RS rLeaf m2 _ _ := RS_of_own hl0a hl0b; have hL2 : RS rLeaf m2 _ _ := RS_of_own hl1a hl1b; exact (syllogistref_Leaves_ok w0 m2 _ _ _ hL1 _ _ hL2 _ (gd_get (d := false) ha51 hG) w hc2).mono fun e w' ⟨he, hc'⟩ => ⟨he, (hback1 m1 _ _ w' (.refl _) hp0).2 ((hback2 m2 _ _ w' (.refl _) hp1).2 hc')⟩)) ?_
        refine W.q rfl rfl rfl rfl (by decide) (Yd.and rfl (.t rfl) .c rfl rfl) ?_
        refine W.q rfl rfl rfl rfl (by decide) (Yd.as rfl (.t rfl)) ?_
        refine W.end ?_
        refine NX.sub (env' := [(8, _)]) ⟨rfl, trivial⟩ ?_
        refine NX.drop (l' := l) (.cons _ (.cons _ (.cons _ (.cons _ (.refl _))))) ?_
        refine NX.then ?_
        refine Tr.ret' ?_
        refine res1 rfl rfl ?_
        intro w hc
        cases hr
        exact ⟨rfl, (cX_le (x := ⟨m, _⟩) ⟨((hsm7.trans hsm18).trans hsm33), [], rfl⟩ hc)⟩
    have hlen52 := (hothers_1).2.1
    refine Tr.block ?_
    refine Tr.sub (env' := [(0, _), (3, _), (6, _), (12, _), (46, _), (47, _), (48, _)]) ⟨rfl, rfl, rfl, rfl, rfl, rfl, rfl, trivial⟩ ?_
    refine Tr.loop (S := fun n (z : Int × (List Stroke)) env x => match z with | (t_53, mixed_25) => ∃ m29 : Snap, ∃ u26 : Value, Sle m18 m29 ∧ RS rStroke m29 u26 mixed_25 ∧ env = [(0, uscript_0), (3, uat_3), (6, bp b1 0), (12, u26), (46, uothers_1), (47, .int .i64 ((others_1.length : Int))), (48, .int .i64 t_53)] ∧ x = ⟨m29, hcells b1 [.int .i64 who_2.level, .int .u32 (who_2.parts.toNat : Int)] 25 :: l⟩ ∧ n = ((others_1.length : Int) - t_53).toNat ∧ 0 ≤ t_53 ∧ forK (σ := (List Stroke)) (fun i s nx_ => syllogisttop_TopTwo_b54 others_1 who_2 at_3 i s nx_) (fun s => syllogisttop_TopTwo_k34 script_0 who_2 fuel s) n t_53 mixed_25 = some r) _ ((0 : Int), r15) ⟨_, _, (.refl _), hu19, rfl, rfl, rfl, (by omega), hr⟩ ?_
    rintro n56 ⟨t_53, mixed_25⟩ env x ⟨m29, u26, hsm29, hu27, rfl, rfl, hnt_53, h0t_53, hr⟩
    have hscript_0 := hscript_0.mono hsm29
    have hothers_1 := hothers_1.mono hsm29
    have hat_3 := hat_3.mono hsm29
    have hu8 := hu8.mono hsm29
    have hu19 := hu19.mono hsm29
    cases n56 with
    | zero =>
      simp only [forK] at hr
      refine Tr.seq ?_
      refine Tr.region_f (fun _ => false) ?_
      refine W.q rfl rfl rfl rfl (by decide) (Yd.lss rfl (.t rfl) (.t rfl)) ?_
      refine W.end ?_
      refine NX.sub (env' := [(0, _), (3, _), (6, _), (12, _), (46, _), (47, _), (48, _), (49, _)]) ⟨rfl, rfl, rfl, rfl, rfl, rfl, rfl, rfl, trivial⟩ ?_
      refine NX.then ?_
      refine Tr.seq ?_
      refine Tr.cond (.t rfl) (fun hb => ?_) (fun hb => ?_)
      · exact absurd (hb.symm.trans (fr_end hnt_53)) (by decide)
      ·
        refine Tr.exit' (EX.then (EX.then (EX.block ?_)))
        refine NX.sub (env' := [(0, _), (6, _), (12, _)]) ⟨rfl, rfl, rfl, trivial⟩ ?_
        exact hk35 _ _ ⟨_, _, _, hsm29, hu27, rfl, rfl, hr⟩
    | succ n56 =>
      obtain ⟨nx55, hnx55, hr⟩ := forK_succ hr
      try dsimp only at hr
      unfold syllogisttop_TopTwo_b54 at hr
      try dsimp only at hr
      have hltt_53 := fr_bnd hnt_53
      refine Tr.seq ?_
      refine Tr.region_f (fun _ => false) ?_
      refine W.q rfl rfl rfl rfl (by decide) (Yd.lss rfl (.t rfl) (.t rfl)) ?_
      refine W.end ?_
      refine NX.sub (env' := [(0, _), (3, _), (6, _), (12, _), (46, _), (47, _), (48, _), (49, _)]) ⟨rfl, rfl, rfl, rfl, rfl, rfl, rfl, rfl, trivial⟩ ?_
      refine NX.then ?_
      refine Tr.seq ?_
      refine Tr.cond (.t rfl) (fun hb => ?_) (fun hb => ?_)
      rotate_left
      · exact absurd (hb.symm.trans (fr_go hnt_53)) (by decide)
      ·
        refine Tr.skip' ?_
        refine NX.then ?_
        refine Tr.seq ?_
        refine Tr.block ?_
        refine Tr.seq ?_
        refine Tr.addnil 3 1 ?_
        refine Tr.cast (m' := m29) (l' := hownT 3 1 encI (.slice none 0 0) (([] : List Int)) :: hcells b1 [.int .i64 who_2.level, .int .u32 (who_2.parts.toNat : Int)] 25 :: l) rfl rfl ?_
        obtain ⟨y58, hy59, hr⟩ := bind_some hr
        refine Tr.region_f (fun i => Nat.beq i 3 || Nat.beq i 5) ?_
        refine W.q rfl rfl rfl rfl (by decide) (Yd.mv rfl (.t rfl)) ?_
        refine W.q rfl rfl rfl rfl (by decide) (Yd.idxR hothers_1 hy59 rfl Try.underlying50 SZ47 (.t rfl) (.t rfl)) ?_
        obtain ⟨_, ⟨u60, rfl, hu61⟩, hat62⟩ := RS.el hothers_1 hy59
        refine W.q rfl rfl rfl rfl (by decide) (Yd.ldRs hat62 (.refl _) rfl ON47 US47 SZ47 rfl (.t rfl)) ?_
        refine W.e rfl rfl rfl rfl (by decide) (Ef.al rfl ZR47 rfl) ?_
        rintro _ _ ⟨b63, rfl, rfl⟩
        refine ⟨.inl rfl, ?_⟩
        refine W.cast (m' := m29) (l' := hcells b63 [_, _, _, _, _] 47 :: hownT 3 1 encI (.slice none 0 0) (([] : List Int)) :: hcells b1 [_, _] 25 :: l) rfl rfl ?_
        refine W.q rfl rfl rfl rfl (by decide) (Yd.as rfl (.t rfl)) ?_
        refine W.s rfl rfl rfl rfl (Ef.stBs (pos := 0) (us := [.int .i64 y58.kind, .int .i64 y58.who.level, .int .u32 (y58.who.parts.toNat : Int), u60, .int .i64 y58.text]) (cs' := [_, _, _, _, _]) (.cons (On.lit rfl) (.cons (On.lit rfl) (.cons (On.lit rfl) (.cons (On.ro hu61) (.cons (On.lit rfl) .nil))))) rfl rfl (.t rfl) (.t rfl) SZ47 rfl rfl (Nat.le_of_ble_eq_true rfl) rfl) ?_
        rintro _ _ ⟨rfl, rfl⟩
        refine ⟨.inl rfl, ?_⟩
        refine W.cast (m' := m29) (l' := hcells b63 [_, _, _, _, _] 47 :: hownT 3 1 encI (.slice none 0 0) (([] : List Int)) :: hcells b1 [_, _] 25 :: l) rfl rfl ?_
        refine W.end ?_
        refine NX.sub (env' := [(0, _), (3, _), (6, _), (12, _), (46, _), (47, _), (48, _), (14, _), (13, _)]) ⟨rfl, rfl, rfl, rfl, rfl, rfl, rfl, rfl, rfl, trivial⟩ ?_
        refine NX.drop (l' := hcells b63 [_, _, _, _, _] 47 :: hcells b1 [_, _] 25 :: l) (.cons_cons _ (.cons _ (.cons_cons _ (.refl _)))) ?_
        refine NX.then ?_
        refine Tr.seq ?_
        refine Tr.seq ?_
        obtain ⟨r65, hr66, hr⟩ := bind_some hr
        refine Tr.region_f (fun _ => false) ?_
        refine W.q rfl rfl rfl rfl (by decide) (Yd.fldB rfl Try.underlying47 rfl SZ25 rfl (.t rfl)) ?_
        refine W.q rfl rfl rfl rfl (by decide) (Yd.ldBs (pos := 0) (us := [_, _]) rfl rfl rfl rfl ON25 US25 SZ25 (.t rfl)) ?_
        refine W.q rfl rfl rfl rfl (by decide) (Yd.ldBs (pos := 1) (us := [_, _]) rfl rfl rfl rfl ON25 US25 SZ25 (.t rfl)) ?_
        refine W.q rfl rfl rfl rfl (by decide) (Yd.call (v := .bool r65) rfl Try.func19 rfl rfl (.cons (.t rfl) (.cons (.t rfl) .nil)) (fun x' hx w hw => syllogistref_Below_ok w0 x'.m x'.l (({ level := y58.who.level, parts := y58.who.parts } : Label)) (({ level := who_2.level, parts := who_2.parts } : Label)) _ hr66 w hw)) ?_
        refine W.end ?_
        refine NX.sub (env' := [(0, _), (3, _), (6, _), (12, _), (46, _), (47, _), (48, _), (14, _), (13, _), (56, _)]) ⟨rfl, rfl, rfl, rfl, rfl, rfl, rfl, rfl, rfl, rfl, trivial⟩ ?_
        refine NX.then ?_
        refine Tr.cond (.t rfl) (fun hb => ?_) (fun hb => ?_)
        · have hr := cond_t hb hr
          refine Tr.exit' (EX.then (EX.block ?_))
          refine NX.then ?_
          refine Tr.region_f (fun _ => false) ?_
          refine W.q rfl rfl rfl rfl (by decide) (Yd.add rfl (.t rfl) .c) ?_
          refine W.q rfl rfl rfl rfl (by decide) (Yd.mv rfl (.t rfl)) ?_
          refine W.end ?_
          refine NX.sub (env' := [(0, _), (3, _), (6, _), (12, _), (46, _), (47, _), (48, _)]) ⟨rfl, rfl, rfl, rfl, rfl, rfl, rfl, trivial⟩ ?_
          refine NX.drop (l' := hcells b1 [_, _] 25 :: l) (.cons _ (.cons_cons _ (.refl _))) ?_
          refine NX.sub (env' := [(0, _), (3, _), (6, _), (12, _), (46, _), (47, _), (48, _)]) ⟨rfl, rfl, rfl, rfl, rfl, rfl, rfl, trivial⟩ ?_
          have hw := w64_id (n := t_53 + 1) (by omega) (by omega)
          exact NX.again n56 (t_53 + 1, mixed_25) (Nat.lt_succ_self _) ⟨_, _, hsm29, hu27, (by rw [hw] <;> rfl), rfl, (fr_dec hnt_53), (by omega), ((hnx55 _).symm.trans hr)⟩
        · have hr := cond_f hb hr
          refine Tr.skip' ?_
          refine NX.then ?_
          refine Tr.seq ?_
          refine Tr.region_f (fun _ => false) ?_
          refine W.q rfl rfl rfl rfl (by decide) (Yd.as rfl .c) ?_
          refine W.end ?_
          refine NX.sub (env' := [(0, _), (3, _), (6, _), (12, _), (46, _), (47, _), (48, _), (14, _), (13, _), (15, _)]) ⟨rfl, rfl, rfl, rfl, rfl, rfl, rfl, rfl, rfl, rfl, trivial⟩ ?_
          refine NX.then ?_
          refine Tr.seq ?_
          refine Tr.seq ?_
          refine Tr.region_f (fun _ => false) ?_
          refine W.q rfl rfl rfl rfl (by decide) (Yd.mv rfl (.t rfl)) ?_
          refine W.q rfl rfl rfl rfl (by decide) (Yd.mv rfl (.t rfl)) ?_
          refine W.q rfl rfl rfl rfl (by decide) (Yd.lenR hat_3 rfl Try.underlying62 (.t rfl)) ?_
          refine W.q rfl rfl rfl rfl (by decide) (Yd.lss rfl (.t rfl) (.t rfl)) ?_
          refine W.end ?_
          refine NX.sub (env' := [(0, _), (3, _), (6, _), (12, _), (46, _), (47, _), (48, _), (14, _), (13, _), (15, _), (60, _)]) ⟨rfl, rfl, rfl, rfl, rfl, rfl, rfl, rfl, rfl, rfl, rfl, trivial⟩ ?_
          refine NX.then ?_
          refine Tr.join (S := fun env x => ∃ k_67 : Int, env = [(0, uscript_0), (3, uat_3), (6, bp b1 0), (12, u26), (46, uothers_1), (47, .int .i64 ((others_1.length : Int))), (48, .int .i64 t_53), (14, bp b63 0), (15, .int .i64 k_67)] ∧ x = ⟨m29, hcells b63 [.int .i64 y58.kind, .int .i64 y58.who.level, .int .u32 (y58.who.parts.toNat : Int), u60, .int .i64 y58.text] 47 :: hcells b1 [.int .i64 who_2.level, .int .u32 (who_2.parts.toNat : Int)] 25 :: l⟩ ∧ syllogisttop_TopTwo_k68 mixed_25 nx55 y58 k_67 = some r) ?_ (fun hk69 => ?_)
          · rintro _ _ ⟨k_67, rfl, rfl, hr⟩
            unfold syllogisttop_TopTwo_k68 at hr
            try dsimp only at hr
            refine NX.then ?_
            obtain ⟨hq240, hr⟩ := guard_some hr; replace hq240 := of_decide_eq_true hq240
            obtain ⟨hq284, hr⟩ := guard_some hr; replace hq284 := of_decide_eq_true hq284
            obtain ⟨hq401, hr⟩ := guard_some hr; replace hq401 := of_decide_eq_true hq401
            obtain ⟨hq564, hr⟩ := guard_some hr; replace hq564 := of_decide_eq_true hq564
            refine Tr.region_xJ (fun x => Sle m29 x.m ∧ (∃ p : Nat, x.l[p]? = some (hcells b63 [.int .i64 y58.kind, .int .i64 y58.who.level, .int .u32 (y58.who.parts.toNat : Int), u60, .int .i64 y58.text] 47)) ∧ True) (fun _ _ hx h => by obtain ⟨hm, ⟨_, h0⟩, _⟩ := h; exact ⟨hm.trans hx.1, hx.at h0, trivial⟩) (fun i => Nat.beq i 4) (fun i => Nat.beq i 5) (fun i => Nat.beq i 0 || Nat.beq i 4 || Nat.beq i 6 || Nat.beq i 7 || Nat.beq i 11) (fun i => Nat.beq i 4 || Nat.beq i 5 || Nat.beq i 7 || Nat.beq i 8 || Nat.beq i 9 || Nat.beq i 10 || Nat.beq i 11) (.one 1 (.one 2 (.one 3 (.one 5 (.one 8 (.one 9 (.one 10 (.two 0 6 (.two 4 6 (Ord.of [6, 7, 11, 12]) (Ord.of [4, 7, 11, 12])) (Ord.of [0, 4, 7, 11, 12]))))))))) FM (by kernel_rfl) ?_
            refine W.q rfl rfl rfl rfl (by decide) (Yd.mv rfl (.t rfl)) ?_
            refine W.q rfl rfl rfl rfl (by decide) (Yd.mv rfl (.t rfl)) ?_
            have hu240 := RS.to (k := k_67.toNat) hu27 (by omega)
            refine W.q rfl rfl rfl rfl (by decide) (Yd.slToR hu27 rfl Try.underlying50 (Option.some_get IN47).symm (.t rfl) (.t rfl) hq240.1 hq240.2) ?_
            refine W.pJ rfl rfl rfl rfl (by decide) (fun _ h => by obtain ⟨jhm, ⟨jp0, jhp0⟩, _⟩ := h; exact Yd.ldBs (pos := jp0) (us := [_, _, _, _, _]) jhp0 rfl rfl rfl ON47 US47 SZ47 (.t rfl)) ⟨(.refl _), ⟨0, rfl⟩, trivial⟩ rfl ?_
            refine W.p rfl rfl rfl rfl (by decide) (fun _ => Yd.mv rfl (.t rfl)) ?_
            refine W.p rfl rfl rfl rfl (by decide) (fun _ => Yd.mv rfl (.t rfl)) ?_
            have hu520 : RS rStroke _ (Sy.slFrom 5 u26 k_67.toNat) _ := RS.from (k := k_67.toNat) hu27 (by omega)
            refine W.p rfl rfl rfl rfl (by decide) (fun _ => Yd.slFromR hu27 rfl rfl Try.underlying50 SZ47 (.t rfl) (.t rfl) hq240.1 hq240.2) ?_
            refine W.two ?_ ?_
            ·
              refine W.e rfl rfl rfl rfl (by decide) (Ef.bsW (vs := []) (cells := ([] : List Value)) IF47 rfl Try.underlying50 (by decide) rfl .nil rfl rfl rfl (by decide)) ?_ (hJ := fun _ _ _ h => absurd (show false = true from h) (by decide))
              rintro v120 _ rfl
              refine ⟨.inr ⟨.refl _, [_], rfl⟩, ?_⟩
              refine W.cast (m' := m29) (l' := hown 47 5 v120 _ _ :: hcells b63 [_, _, _, _, _] 47 :: hcells b1 [_, _] 25 :: l) rfl rfl ?_
              refine W.two ?_ ?_
              ·
                obtain ⟨us281, hw282, hsr283⟩ := RS.rwsOf (R := rStroke) (by decide) hu240
                refine W.e rfl rfl rfl rfl (by decide) (Ef.apW (R := rStroke) (pos := 0) (us' := us281) (xs := ([] : List Stroke)) (ys := (mixed_25.take k_67.toNat)) OC47 rfl IF47 rfl hw282 (hsr283 _ _ (.refl _)) rfl Try.underlying50 rfl (by decide) (.t rfl) (.t rfl) (by omega) (by omega)) ?_ (hJ := by rintro v280 _ rfl; exact fun _ => ⟨(.refl _), ⟨1, rfl⟩, trivial⟩)
                rintro v280 _ rfl
                refine ⟨.inl rfl, ?_⟩
                refine W.cast (m' := m29) (l' := hown 47 5 v280 _ _ :: hcells b63 [_, _, _, _, _] 47 :: hcells b1 [_, _] 25 :: l) rfl rfl ?_
                refine W.e rfl rfl rfl rfl (by decide) (Ef.bsW (vs := [.agg #[.int .i64 y58.kind, .int .i64 y58.who.level, .int .u32 (y58.who.parts.toNat : Int), u60, .int .i64 y58.text]]) (cells := ([.int .i64 y58.kind, .int .i64 y58.who.level, .int .u32 (y58.who.parts.toNat : Int), u60, .int .i64 y58.text] : List Value)) IF47 rfl Try.underlying50 (by decide) rfl (.cons (.t rfl) .nil) rfl rfl rfl (by decide)) ?_ (hJ := fun _ _ _ h => absurd (show false = true from h) (by decide))
                rintro v360 _ rfl
                refine ⟨.inr ⟨.refl _, [_], rfl⟩, ?_⟩
                refine W.cast (m' := m29) (l' := hown 47 5 v360 _ _ :: hown 47 5 v280 _ _ :: hcells b63 [_, _, _, _, _] 47 :: hcells b1 [_, _] 25 :: l) rfl rfl ?_
                refine W.e rfl rfl rfl rfl (by decide) (Ef.apW (R := rStroke) (pos := 1) (us' := ([.int .i64 y58.kind, .int .i64 y58.who.level, .int .u32 (y58.who.parts.toNat : Int), u60, .int .i64 y58.text] : List Value)) (xs := (([] : List Stroke) ++ (mixed_25.take k_67.toNat))) (ys := ([({ kind := y58.kind, who := ({ level := y58.who.level, parts := y58.who.parts } : Label), path := y58.path, text := y58.text } : Stroke)] : List Stroke)) OC47 rfl IF47 rfl (Rws.one (MK47 (({ kind := y58.kind, who := ({ level := y58.who.level, parts := y58.who.parts } : Label), path := y58.path, text := y58.text } : Stroke)) hu61)) (Src.own (pos := 0) rfl) rfl Try.underlying50 rfl (by decide) (.t rfl) (.t rfl) (by omega) (by omega)) ?_ (hJ := fun _ _ _ h => absurd (show false = true from h) (by decide))
                rintro v400 _ rfl
                refine ⟨.inl rfl, ?_⟩
                refine W.cast (m' := m29) (l' := hown 47 5 v360 _ _ :: hown 47 5 v400 _ _ :: hcells b63 [_, _, _, _, _] 47 :: hcells b1 [_, _] 25 :: l) rfl rfl ?_
                obtain ⟨us561, hw562, hsr563⟩ := RS.rwsOf (R := rStroke) (by decide) hu520
                refine W.e rfl rfl rfl rfl (by decide) (Ef.apW (R := rStroke) (pos := 1) (us' := us561) (xs := ((([] : List Stroke) ++ (mixed_25.take k_67.toNat)) ++ ([({ kind := y58.kind, who := ({ level := y58.who.level, parts := y58.who.parts } : Label), path := y58.path, text := y58.text } : Stroke)] : List Stroke))) (ys := (mixed_25.drop k_67.toNat)) OC47 rfl IF47 rfl hw562 (hsr563 _ _ (.refl _)) rfl Try.underlying50 rfl (by decide) (.t rfl) (.t rfl) (by omega) (by omega)) ?_ (hJ := fun _ _ _ h => absurd (show false = true from h) (by decide))
                rintro v560 _ rfl
                refine ⟨.inl rfl, ?_⟩
                refine W.cast (m' := m29) (l' := hown 47 5 v360 _ _ :: hown 47 5 v560 _ _ :: hcells b63 [_, _, _, _, _] 47 :: hcells b1 [_, _] 25 :: l) rfl rfl ?_
                refine W.q rfl rfl rfl rfl (by decide) (Yd.as rfl (.t rfl)) ?_
                refine W.end ?_
                refine NX.sub (env' := [(0, _), (3, _), (6, _), (12, _), (46, _), (47, _), (48, _)]) ⟨rfl, rfl, rfl, rfl, rfl, rfl, rfl, trivial⟩ ?_
                refine NX.drop (l' := hown 47 5 v560 _ _ :: hcells b1 [_, _] 25 :: l) (.cons _ (.cons_cons _ (.cons _ (.cons_cons _ (.refl _))))) ?_
                refine NX.block ?_
                refine NX.then ?_
                refine Tr.region_f (fun _ => false) ?_
                refine W.q rfl rfl rfl rfl (by decide) (Yd.add rfl (.t rfl) .c) ?_
                refine W.q rfl rfl rfl rfl (by decide) (Yd.mv rfl (.t rfl)) ?_
                refine W.end ?_
                refine NX.sub (env' := [(0, _), (3, _), (6, _), (12, _), (46, _), (47, _), (48, _)]) ⟨rfl, rfl, rfl, rfl, rfl, rfl, rfl, trivial⟩ ?_
                refine NX.freezeW rfl (pos := 0) (Rws.app (Rws.app (Rws.app (Rws.nil _ _) hw282) (Rws.one (MK47 (({ kind := y58.kind, who := ({ level := y58.who.level, parts := y58.who.parts } : Label), path := y58.path, text := y58.text } : Stroke)) hu61))) hw562) rfl (fun m660 hsm660 hu661 => ?_)
                have hscript_0 := hscript_0.mono hsm660
                have hothers_1 := hothers_1.mono hsm660
                have hat_3 := hat_3.mono hsm660
                have hu8 := hu8.mono hsm660
                have hu19 := hu19.mono hsm660
                have hu27 := hu27.mono hsm660
                have hu61 := hu61.mono hsm660
                have hu240 := hu240.mono hsm660
                have hu520 := hu520.mono hsm660
                have hw282 := hw282.mono hsm660
                have hw562 := hw562.mono hsm660
                refine NX.cast (m' := m660) (l' := hcells b1 [_, _] 25 :: l) rfl rfl ?_
                refine NX.sub (env' := [(0, _), (3, _), (6, _), (12, _), (46, _), (47, _), (48, _)]) ⟨rfl, rfl, rfl, rfl, rfl, rfl, rfl, trivial⟩ ?_
                have hw := w64_id (n := t_53 + 1) (by omega) (by omega)
                exact NX.again n56 (t_53 + 1, (((([] : List Stroke) ++ (mixed_25.take k_67.toNat)) ++ ([({ kind := y58.kind, who := ({ level := y58.who.level, parts := y58.who.parts } : Label), path := y58.path, text := y58.text } : Stroke)] : List Stroke)) ++ (mixed_25.drop k_67.toNat))) (Nat.lt_succ_self _) ⟨_, _, (hsm29.trans hsm660), hu661, (by rw [hw] <;> rfl), rfl, (fr_dec hnt_53), (by omega), ((hnx55 _).symm.trans hr)⟩
              ·
                refine W.e rfl rfl rfl rfl (by decide) (Ef.bsW (vs := [.agg #[.int .i64 y58.kind, .int .i64 y58.who.level, .int .u32 (y58.who.parts.toNat : Int), u60, .int .i64 y58.text]]) (cells := ([.int .i64 y58.kind, .int .i64 y58.who.level, .int .u32 (y58.who.parts.toNat : Int), u60, .int .i64 y58.text] : List Value)) IF47 rfl Try.underlying50 (by decide) rfl (.cons (.t rfl) .nil) rfl rfl rfl (by decide)) ?_ (hJ := fun _ _ _ h => absurd (show false = true from h) (by decide))
                rintro v360 _ rfl
                refine ⟨.inr ⟨.refl _, [_], rfl⟩, ?_⟩
                refine W.cast (m' := m29) (l' := hown 47 5 v360 _ _ :: hown 47 5 v120 _ _ :: hcells b63 [_, _, _, _, _] 47 :: hcells b1 [_, _] 25 :: l) rfl rfl ?_
                obtain ⟨us281, hw282, hsr283⟩ := RS.rwsOf (R := rStroke) (by decide) hu240
                refine W.e rfl rfl rfl rfl (by decide) (Ef.apW (R := rStroke) (pos := 1) (us' := us281) (xs := ([] : List Stroke)) (ys := (mixed_25.take k_67.toNat)) OC47 rfl IF47 rfl hw282 (hsr283 _ _ (.refl _)) rfl Try.underlying50 rfl (by decide) (.t rfl) (.t rfl) (by omega) (by omega)) ?_ (hJ := by rintro v280 _ rfl; exact fun _ => ⟨(.refl _), ⟨2, rfl⟩, trivial⟩)
                rintro v280 _ rfl
                refine ⟨.inl rfl, ?_⟩
                refine W.cast (m' := m29) (l' := hown 47 5 v360 _ _ :: hown 47 5 v280 _ _ :: hcells b63 [_, _, _, _, _] 47 :: hcells b1 [_, _] 25 :: l) rfl rfl ?_
                refine W.e rfl rfl rfl rfl (by decide) (Ef.apW (R := rStroke) (pos := 1) (us' := ([.int .i64 y58.kind, .int .i64 y58.who.level, .int .u32 (y58.who.parts.toNat : Int), u60, .int .i64 y58.text] : List Value)) (xs := (([] : List Stroke) ++ (mixed_25.take k_67.toNat))) (ys := ([({ kind := y58.kind, who := ({ level := y58.who.level, parts := y58.who.parts } : Label), path := y58.path, text := y58.text } : Stroke)] : List Stroke)) OC47 rfl IF47 rfl (Rws.one (MK47 (({ kind := y58.kind, who := ({ level := y58.who.level, parts := y58.who.parts } : Label), path := y58.path, text := y58.text } : Stroke)) hu61)) (Src.own (pos := 0) rfl) rfl Try.underlying50 rfl (by decide) (.t rfl) (.t rfl) (by omega) (by omega)) ?_ (hJ := fun _ _ _ h => absurd (show false = true from h) (by decide))
                rintro v400 _ rfl
                refine ⟨.inl rfl, ?_⟩
                refine W.cast (m' := m29) (l' := hown 47 5 v360 _ _ :: hown 47 5 v400 _ _ :: hcells b63 [_, _, _, _, _] 47 :: hcells b1 [_, _] 25 :: l) rfl rfl ?_
                obtain ⟨us561, hw562, hsr563⟩ := RS.rwsOf (R := rStroke) (by decide) hu520
                refine W.e rfl rfl rfl rfl (by decide) (Ef.apW (R := rStroke) (pos := 1) (us' := us561) (xs := ((([] : List Stroke) ++ (mixed_25.take k_67.toNat)) ++ ([({ kind := y58.kind, who := ({ level := y58.who.level, parts := y58.who.parts } : Label), path := y58.path, text := y58.text } : Stroke)] : List Stroke))) (ys := (mixed_25.drop k_67.toNat)) OC47 rfl IF47 rfl hw562 (hsr563 _ _ (.refl _)) rfl Try.underlying50 rfl (by decide) (.t rfl) (.t rfl) (by omega) (by omega)) ?_ (hJ := fun _ _ _ h => absurd (show false = true from h) (by decide))
                rintro v560 _ rfl
                refine ⟨.inl rfl, ?_⟩
                refine W.cast (m' := m29) (l' := hown 47 5 v360 _ _ :: hown 47 5 v560 _ _ :: hcells b63 [_, _, _, _, _] 47 :: hcells b1 [_, _] 25 :: l) rfl rfl ?_
                refine W.q rfl rfl rfl rfl (by decide) (Yd.as rfl (.t rfl)) ?_
                refine W.end ?_
                refine NX.sub (env' := [(0, _), (3, _), (6, _), (12, _), (46, _), (47, _), (48, _)]) ⟨rfl, rfl, rfl, rfl, rfl, rfl, rfl, trivial⟩ ?_
                refine NX.drop (l' := hown 47 5 v560 _ _ :: hcells b1 [_, _] 25 :: l) (.cons _ (.cons_cons _ (.cons _ (.cons_cons _ (.refl _))))) ?_
                refine NX.block ?_
                refine NX.then ?_
                refine Tr.region_f (fun _ => false) ?_
                refine W.q rfl rfl rfl rfl (by decide) (Yd.add rfl (.t rfl) .c) ?_
                refine W.q rfl rfl rfl rfl (by decide) (Yd.mv rfl (.t rfl)) ?_
                refine W.end ?_
                refine NX.sub (env' := [(0, _), (3, _), (6, _), (12, _), (46, _), (47, _), (48, _)]) ⟨rfl, rfl, rfl, rfl, rfl, rfl, rfl, trivial⟩ ?_
                refine NX.freezeW rfl (pos := 0) (Rws.app (Rws.app (Rws.app (Rws.nil _ _) hw282) (Rws.one (MK47 (({ kind := y58.kind, who := ({ level := y58.who.level, parts := y58.who.parts } : Label), path := y58.path, text := y58.text } : Stroke)) hu61))) hw562) rfl (fun m660 hsm660 hu661 => ?_)
                have hscript_0 := hscript_0.mono hsm660
                have hothers_1 := hothers_1.mono hsm660
                have hat_3 := hat_3.mono hsm660
                have hu8 := hu8.mono hsm660
                have hu19 := hu19.mono hsm660
                have hu27 := hu27.mono hsm660
                have hu61 := hu61.mono hsm660
                have hu240 := hu240.mono hsm660
                have hu520 := hu520.mono hsm660
                have hw282 := hw282.mono hsm660
                have hw562 := hw562.mono hsm660
                refine NX.cast (m' := m660) (l' := hcells b1 [_, _] 25 :: l) rfl rfl ?_
                refine NX.sub (env' := [(0, _), (3, _), (6, _), (12, _), (46, _), (47, _), (48, _)]) ⟨rfl, rfl, rfl, rfl, rfl, rfl, rfl, trivial⟩ ?_
                have hw := w64_id (n := t_53 + 1) (by omega) (by omega)
                exact NX.again n56 (t_53 + 1, (((([] : List Stroke) ++ (mixed_25.take k_67.toNat)) ++ ([({ kind := y58.kind, who := ({ level := y58.who.level, parts := y58.who.parts } : Label), path := y58.path, text := y58.text } : Stroke)] : List Stroke)) ++ (mixed_25.drop k_67.toNat))) (Nat.lt_succ_self _) ⟨_, _, (hsm29.trans hsm660), hu661, (by rw [hw] <;> rfl), rfl, (fr_dec hnt_53), (by omega), ((hnx55 _).symm.trans hr)⟩
            ·
              refine W.e rfl rfl rfl rfl (by decide) (Ef.bsW (vs := [.agg #[.int .i64 y58.kind, .int .i64 y58.who.level, .int .u32 (y58.who.parts.toNat : Int), u60, .int .i64 y58.text]]) (cells := ([.int .i64 y58.kind, .int .i64 y58.who.level, .int .u32 (y58.who.parts.toNat : Int), u60, .int .i64 y58.text] : List Value)) IF47 rfl Try.underlying50 (by decide) rfl (.cons (.t rfl) .nil) rfl rfl rfl (by decide)) ?_ (hJ := fun _ _ _ h => absurd (show false = true from h) (by decide))
              rintro v360 _ rfl
              refine ⟨.inr ⟨.refl _, [_], rfl⟩, ?_⟩
              refine W.cast (m' := m29) (l' := hown 47 5 v360 _ _ :: hcells b63 [_, _, _, _, _] 47 :: hcells b1 [_, _] 25 :: l) rfl rfl ?_
              refine W.e rfl rfl rfl rfl (by decide) (Ef.bsW (vs := []) (cells := ([] : List Value)) IF47 rfl Try.underlying50 (by decide) rfl .nil rfl rfl rfl (by decide)) ?_ (hJ := fun _ _ _ h => absurd (show false = true from h) (by decide))
              rintro v120 _ rfl
              refine ⟨.inr ⟨.refl _, [_], rfl⟩, ?_⟩
              refine W.cast (m' := m29) (l' := hown 47 5 v120 _ _ :: hown 47 5 v360 _ _ :: hcells b63 [_, _, _, _, _] 47 :: hcells b1 [_, _] 25 :: l) rfl rfl ?_
              obtain ⟨us281, hw282, hsr283⟩ := RS.rwsOf (R := rStroke) (by decide) hu240
              refine W.e rfl rfl rfl rfl (by decide) (Ef.apW (R := rStroke) (pos := 0) (us' := us281) (xs := ([] : List Stroke)) (ys := (mixed_25.take k_67.toNat)) OC47 rfl IF47 rfl hw282 (hsr283 _ _ (.refl _)) rfl Try.underlying50 rfl (by decide) (.t rfl) (.t rfl) (by omega) (by omega)) ?_ (hJ := by rintro v280 _ rfl; exact fun _ => ⟨(.refl _), ⟨2, rfl⟩, trivial⟩)
              rintro v280 _ rfl
              refine ⟨.inl rfl, ?_⟩
              refine W.cast (m' := m29) (l' := hown 47 5 v280 _ _ :: hown 47 5 v360 _ _ :: hcells b63 [_, _, _, _, _] 47 :: hcells b1 [_, _] 25 :: l) rfl rfl ?_
              refine W.e rfl rfl rfl rfl (by decide) (Ef.apW (R := rStroke) (pos := 0) (us' := ([.int .i64 y58.kind, .int .i64 y58.who.level, .int .u32 (y58.who.parts.toNat : Int), u60, .int .i64 y58.text] : List Value)) (xs := (([] : List Stroke) ++ (mixed_25.take k_67.toNat))) (ys := ([({ kind := y58.kind, who := ({ level := y58.who.level, parts := y58.who.parts } : Label), path := y58.path, text := y58.text } : Stroke)] : List Stroke)) OC47 rfl IF47 rfl (Rws.one (MK47 (({ kind := y58.kind, who := ({ level := y58.who.level, parts := y58.who.parts } : Label), path := y58.path, text := y58.text } : Stroke)) hu61)) (Src.own (pos := 1) rfl) rfl Try.underlying50 rfl (by decide) (.t rfl) (.t rfl) (by omega) (by omega)) ?_ (hJ := fun _ _ _ h => absurd (show false = true from h) (by decide))
              rintro v400 _ rfl
              refine ⟨.inl rfl, ?_⟩
              refine W.cast (m' := m29) (l' := hown 47 5 v400 _ _ :: hown 47 5 v360 _ _ :: hcells b63 [_, _, _, _, _] 47 :: hcells b1 [_, _] 25 :: l) rfl rfl ?_
              obtain ⟨us561, hw562, hsr563⟩ := RS.rwsOf (R := rStroke) (by decide) hu520
              refine W.e rfl rfl rfl rfl (by decide) (Ef.apW (R := rStroke) (pos := 0) (us' := us561) (xs := ((([] : List Stroke) ++ (mixed_25.take k_67.toNat)) ++ ([({ kind := y58.kind, who := ({ level := y58.who.level, parts := y58.who.parts } : Label), path := y58.path, text := y58.text } : Stroke)] : List Stroke))) (ys := (mixed_25.drop k_67.toNat)) OC47 rfl IF47 rfl hw562 (hsr563 _ _ (.refl _)) rfl Try.underlying50 rfl (by decide) (.t rfl) (.t rfl) (by omega) (by omega)) ?_ (hJ := fun _ _ _ h => absurd (show false = true from h) (by decide))
              rintro v560 _ rfl
              refine ⟨.inl rfl, ?_⟩
              refine W.cast (m' := m29) (l' := hown 47 5 v560 _ _ :: hown 47 5 v360 _ _ :: hcells b63 [_, _, _, _, _] 47 :: hcells b1 [_, _] 25 :: l) rfl rfl ?_
              refine W.q rfl rfl rfl rfl (by decide) (Yd.as rfl (.t rfl)) ?_
              refine W.end ?_
              refine NX.imp (fun w hw => cX_front (p := 3) hw rfl) ?_
              refine NX.imp (fun w hw => cX_front (p := 3) hw rfl) ?_
              refine NX.imp (fun w hw => cX_front (p := 2) hw rfl) ?_
              refine NX.imp (fun w hw => cX_front (p := 3) hw rfl) ?_
              refine NX.cast (m' := m29) (l' := hown 47 5 v360 _ _ :: hown 47 5 v560 _ _ :: hcells b63 [_, _, _, _, _] 47 :: hcells b1 [_, _] 25 :: l) rfl rfl ?_
              refine NX.sub (env' := [(0, _), (3, _), (6, _), (12, _), (46, _), (47, _), (48, _)]) ⟨rfl, rfl, rfl, rfl, rfl, rfl, rfl, trivial⟩ ?_
              refine NX.drop (l' := hown 47 5 v560 _ _ :: hcells b1 [_, _] 25 :: l) (.cons _ (.cons_cons _ (.cons _ (.cons_cons _ (.refl _))))) ?_
              refine NX.block ?_
              refine NX.then ?_
              refine Tr.region_f (fun _ => false) ?_
              refine W.q rfl rfl rfl rfl (by decide) (Yd.add rfl (.t rfl) .c) ?_
              refine W.q rfl rfl rfl rfl (by decide) (Yd.mv rfl (.t rfl)) ?_
              refine W.end ?_
              refine NX.sub (env' := [(0, _), (3, _), (6, _), (12, _), (46, _), (47, _), (48, _)]) ⟨rfl, rfl, rfl, rfl, rfl, rfl, rfl, trivial⟩ ?_
              refine NX.freezeW rfl (pos := 0) (Rws.app (Rws.app (Rws.app (Rws.nil _ _) hw282) (Rws.one (MK47 (({ kind := y58.kind, who := ({ level := y58.who.level, parts := y58.who.parts } : Label), path := y58.path, text := y58.text } : Stroke)) hu61))) hw562) rfl (fun m660 hsm660 hu661 => ?_)
              have hscript_0 := hscript_0.mono hsm660
              have hothers_1 := hothers_1.mono hsm660
              have hat_3 := hat_3.mono hsm660
              have hu8 := hu8.mono hsm660
              have hu19 := hu19.mono hsm660
              have hu27 := hu27.mono hsm660
              have hu61 := hu61.mono hsm660
              have hu240 := hu240.mono hsm660
              have hu520 := hu520.mono hsm660
              have hw282 := hw282.mono hsm660
              have hw562 := hw562.mono hsm660
              refine NX.cast (m' := m660) (l' := hcells b1 [_, _] 25 :: l) rfl rfl ?_
              refine NX.sub (env' := [(0, _), (3, _), (6, _), (12, _), (46, _), (47, _), (48, _)]) ⟨rfl, rfl, rfl, rfl, rfl, rfl, rfl, trivial⟩ ?_
              have hw := w64_id (n := t_53 + 1) (by omega) (by omega)
              exact NX.again n56 (t_53 + 1, (((([] : List Stroke) ++ (mixed_25.take k_67.toNat)) ++ ([({ kind := y58.kind, who := ({ level := y58.who.level, parts := y58.who.parts } : Label), path := y58.path, text := y58.text } : Stroke)] : List Stroke)) ++ (mixed_25.drop k_67.toNat))) (Nat.lt_succ_self _) ⟨_, _, (hsm29.trans hsm660), hu661, (by rw [hw] <;> rfl), rfl, (fr_dec hnt_53), (by omega), ((hnx55 _).symm.trans hr)⟩
          refine Tr.cond (.t rfl) (fun hb => ?_) (fun hb => ?_)
          · have hr := cond_t hb hr
            obtain ⟨y662, hy663, hr⟩ := bind_some hr
            obtain ⟨hq664, hr⟩ := guard_some hr; replace hq664 := of_decide_eq_true hq664
            refine Tr.region_f (fun _ => false) ?_
            refine W.q rfl rfl rfl rfl (by decide) (Yd.mv rfl (.t rfl)) ?_
            refine W.q rfl rfl rfl rfl (by decide) (Yd.mv rfl (.t rfl)) ?_
            refine W.q rfl rfl rfl rfl (by decide) (Yd.idxR hat_3 hy663 rfl Try.underlying62 SZ5 (.t rfl) (.t rfl)) ?_
            refine W.q rfl rfl rfl rfl (by decide) (Yd.ldF hat_3 (.refl _) hy663 rfl rfl ON5 (.t rfl)) ?_
            refine W.q rfl rfl rfl rfl (by decide) (Yd.cvBI (a := y662) rfl US5 Try.underlying3 (.t rfl)) ?_
            refine W.q rfl rfl rfl rfl (by decide) (Yd.mv rfl (.t rfl)) ?_
            refine W.q rfl rfl rfl rfl (by decide) (Yd.lenR hu27 rfl Try.underlying50 (.t rfl)) ?_
            refine W.q rfl rfl rfl rfl (by decide) (Yd.add rfl (.t rfl) .c) ?_
            refine W.q rfl rfl rfl rfl (by decide) (Yd.rem rfl (.t rfl) (.t rfl) hq664) ?_
            refine W.q rfl rfl rfl rfl (by decide) (Yd.as rfl (.t rfl)) ?_
            refine W.end ?_
            refine NX.sub (env' := [(0, _), (3, _), (6, _), (12, _), (46, _), (47, _), (48, _), (14, _), (15, _)]) ⟨rfl, rfl, rfl, rfl, rfl, rfl, rfl, rfl, rfl, trivial⟩ ?_
            refine NX.sub (env' := [(0, _), (3, _), (6, _), (12, _), (46, _), (47, _), (48, _), (14, _), (15, _)]) ⟨rfl, rfl, rfl, rfl, rfl, rfl, rfl, rfl, rfl, trivial⟩ ?_
            exact hk69 _ _ ⟨_, rfl, rfl, hr⟩
          · have hr := cond_f hb hr
            refine Tr.skip' ?_
            refine NX.sub (env' := [(0, _), (3, _), (6, _), (12, _), (46, _), (47, _), (48, _), (14, _), (15, _)]) ⟨rfl, rfl, rfl, rfl, rfl, rfl, rfl, rfl, rfl, trivial⟩ ?_
            exact hk69 _ _ ⟨_, rfl, rfl, hr⟩
end Go.Proofs.Ythndckcjjhdbmaa.Sy
