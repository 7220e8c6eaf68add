/- Functions of the program as plain functions, and that the translation computes them; the conditions stand in each theorem. Printed by an own program. -/
import Derived.Test.YtafaimklnnpkiaaSyZ
import Derived.Test.YtafaimklnnpkiaaT
import Derived.Test.YtafaimklnnpkiaaProg
namespace Go.Proofs.Ytafaimklnnpkiaa.Sy
open Go
set_option linter.unusedVariables false
theorem IF66 : (Try.prog.info? 66).map (fun i => (i.zero, i.size, i.bytes)) = some (some (.slice none 0 0), 1, 24) := by kernel_rfl
theorem IF35 : (Try.prog.info? 35).map (fun i => (i.zero, i.size, i.bytes)) = some (some (.int .u32 0), 1, 4) := by kernel_rfl
theorem SZ66 : (Try.prog.info? 66).map (·.size) = some 1 := by kernel_rfl
theorem SZ68 : (Try.prog.info? 68).map (·.size) = some 3 := by kernel_rfl
theorem ON68 : one Try.prog 68 = false := by kernel_rfl
theorem US68 : (Try.prog.underlying 68).isSome = true := by kernel_rfl
theorem ZR68 : (Try.prog.info? 68).bind (·.zero) = some (.agg #[.int .i64 0, .int .i64 0, .int .u32 0]) := by kernel_rfl
theorem SZ3 : (Try.prog.info? 3).map (·.size) = some 1 := by kernel_rfl
theorem ON3 : one Try.prog 3 = true := by kernel_rfl
theorem ON66 : one Try.prog 66 = true := by kernel_rfl
theorem SZ35 : (Try.prog.info? 35).map (·.size) = some 1 := by kernel_rfl
theorem ON35 : one Try.prog 35 = true := by kernel_rfl
theorem ON62 : one Try.prog 62 = true := by kernel_rfl
theorem ZR62 : (Try.prog.info? 62).bind (·.zero) = some (.slice none 0 0) := by kernel_rfl
theorem SZ62 : (Try.prog.info? 62).map (·.size) = some 1 := by kernel_rfl
theorem SZ44 : (Try.prog.info? 44).map (·.size) = some 2 := by kernel_rfl
theorem ZR26 : (Try.prog.info? 26).bind (·.zero) = some (.agg #[.slice none 0 0, .int .i64 0, .slice none 0 0]) := by kernel_rfl
theorem ZI26 : (Try.prog.info? 26).bind (·.zero) = some (.agg #[.slice none 0 0, .int .i64 0, .slice none 0 0]) := by kernel_rfl
theorem PL26 : plS Try.prog 26 = some [(0, 1), (1, 1), (2, 1)] := by kernel_rfl
theorem SZ26 : (Try.prog.info? 26).map (·.size) = some 3 := by kernel_rfl
theorem ON26 : one Try.prog 26 = false := by kernel_rfl
theorem US26 : (Try.prog.underlying 26).isSome = true := by kernel_rfl
theorem SZ46 : (Try.prog.info? 46).map (·.size) = some 6 := by kernel_rfl
theorem ON46 : one Try.prog 46 = false := by kernel_rfl
theorem US46 : (Try.prog.underlying 46).isSome = true := by kernel_rfl
theorem ZR46 : (Try.prog.info? 46).bind (·.zero) = some (.agg #[.int .i64 0, .int .i64 0, .int .i64 0, .int .i64 0, .int .u32 0, .int .i64 0]) := by kernel_rfl
theorem SZ24 : (Try.prog.info? 24).map (·.size) = some 1 := by kernel_rfl
theorem ON24 : one Try.prog 24 = true := by kernel_rfl
theorem IF27 : (Try.prog.info? 27).map (fun i => (i.zero, i.size, i.bytes)) = some (some (.int .i64 0), 1, 8) := by kernel_rfl
theorem SZ22 : (Try.prog.info? 22).map (·.size) = some 1 := by kernel_rfl
theorem ON22 : one Try.prog 22 = true := by kernel_rfl
theorem ZI68 : (Try.prog.info? 68).bind (·.zero) = some (.agg #[.int .i64 0, .int .i64 0, .int .u32 0]) := by kernel_rfl
theorem PL68 : plS Try.prog 68 = some [(0, 1), (1, 1), (2, 1)] := by kernel_rfl
theorem IF68 : (Try.prog.info? 68).map (fun i => (i.zero, i.size, i.bytes)) = some (some (.agg #[.int .i64 0, .int .i64 0, .int .u32 0]), 3, 24) := by kernel_rfl
theorem SZ27 : (Try.prog.info? 27).map (·.size) = some 1 := by kernel_rfl
theorem ON27 : one Try.prog 27 = true := by kernel_rfl
theorem GU68 : Try.prog.eqGuardType Try.prog.depth 68 = false := by kernel_rfl
theorem ST68 : Try.prog.stoodInHeld 68 = false := by kernel_rfl
theorem US3 : (Try.prog.underlying 3).isSome = true := by kernel_rfl
theorem US35 : (Try.prog.underlying 35).isSome = true := by kernel_rfl
theorem EQ68 (w : World) (x0 : Int) (x1 : Int) (x2 : BitVec 32) (y0 : Int) (y1 : Int) (y2 : BitVec 32) : (binOp .eql 68 (.agg #[.int .i64 x0, .int .i64 x1, .int .u32 (x2.toNat : Int)]) (.agg #[.int .i64 y0, .int .i64 y1, .int .u32 (y2.toNat : Int)])).run Try.prog w = .ok (.bool ((x0 == y0) && ((x1 == y1) && ((x2 == y2) && true)))) w :=
  eq_s w Try.underlying68 ST68 (fun d => (eqf_cons w rfl (part_one w ON3 rfl) (part_one w ON3 rfl) (run_equalIn_int w _ _ _ _ _ _ Try.underlying3) (eqf_cons w rfl (part_one w ON3 rfl) (part_one w ON3 rfl) (run_equalIn_int w _ _ _ _ _ _ Try.underlying3) (eqf_cons w rfl (part_one w ON35 rfl) (part_one w ON35 rfl) (eq_u w Try.underlying35) (eqf_nil w)))))
theorem FM : Try.prog.follows .mixedOrders = true := by kernel_rfl

def grant_build_k34 (l30 : List (List (BitVec 32))) : Option ((List (List (BitVec 32))) × Int) :=
  some ((l30, (0 : Int)))

def grant_build_b38 (n_0 : Int) (edges_1 : List Edge) (t_37 : Int) (l26 : List (List (BitVec 32))) (nx39 : (List (List (BitVec 32))) → Option ((List (List (BitVec 32))) × Int)) : Option ((List (List (BitVec 32))) × Int) :=
  (geti edges_1 t_37).bind fun y41 =>
  (bif (((decide ((if y41.to < y41.src then y41.to else y41.src) < (0 : Int))) || (decide ((if y41.to > y41.src then y41.to else y41.src) ≥ n_0))) || (y41.src == y41.to)) then
  some (([], (2 : Int)))
  else
  (geti l26 y41.src).bind fun y45 =>
  (geti y45 y41.to).bind fun y49 =>
  nx39 (l26.set y41.src.toNat (y45.set y41.to.toNat ((y49 ||| y41.rights)))))

def grant_build_k18 (n_0 : Int) (edges_1 : List Edge) (l14 : List (List (BitVec 32))) : Option ((List (List (BitVec 32))) × Int) :=
  forK (σ := (List (List (BitVec 32)))) (fun i s nx_ => grant_build_b38 n_0 edges_1 i s nx_) (fun s => grant_build_k34 s) ((edges_1.length : Int) - (0 : Int)).toNat (0 : Int) l14

def grant_build_b53 (t_52 : Int) (l10 : List (List (BitVec 32))) (nx54 : (List (List (BitVec 32))) → Option ((List (List (BitVec 32))) × Int)) : Option ((List (List (BitVec 32))) × Int) :=
  bif decide (0 ≤ (14 : Int) ∧ (14 : Int) ≤ 1048576) then
  (geti l10 t_52).bind fun y59 =>
  nx54 (l10.set t_52.toNat ((List.replicate ((14 : Int)).toNat (0#32)))) else none

def grant_build (n_0 : Int) (edges_1 : List Edge) : Option ((List (List (BitVec 32))) × Int) :=
  (bif (((decide (n_0 < (1 : Int))) || (decide (n_0 > (6 : Int)))) || (decide ((edges_1.length : Int) > (20 : Int)))) then
  some (([], (1 : Int)))
  else
  bif decide (0 ≤ n_0 ∧ n_0 ≤ 1048576) then
  forK (σ := (List (List (BitVec 32)))) (fun i s nx_ => grant_build_b53 i s nx_) (fun s => grant_build_k18 n_0 edges_1 s) ((((List.replicate n_0.toNat ([] : List (BitVec 32)))).length : Int) - (0 : Int)).toNat (0 : Int) ((List.replicate n_0.toNat ([] : List (BitVec 32)))) else none)

set_option maxRecDepth 100000 in
set_option maxHeartbeats 4000000 in
theorem grant_build_ok (w0 : World) (m : Snap) (l : List HI) (n_0 : Int) (uedges_1 : Value) (edges_1 : List Edge) (hedges_1 : RS rEdge m uedges_1 edges_1) (r : (List (List (BitVec 32))) × Int) (hr : grant_build n_0 edges_1 = some r) (w : World) (hc : cX w0 ⟨m, l⟩ w) :
    Calls Try.prog 22 [.int .i64 n_0, uedges_1].toArray w fun e w' => ∃ z0 : Value, ∃ zs0 : List Value, e = .returned (.tuple #[z0, .int .i64 r.2]) ∧ zs0.length = r.1.length ∧ cX w0 ⟨m, hown 66 1 z0 r.1.length zs0 :: hrows 35 1 encU zs0 r.1 :: l⟩ w' := by
  unfold grant_build at hr
  refine calls_of_Tr (N := 76) Try.func22 rfl hc rfl (Nat.le_of_ble_eq_true rfl) ?_
  refine Tr.seq ?_
  refine Tr.region_f (fun _ => false) ?_
  refine W.q rfl rfl rfl rfl (by decide) (Yd.as rfl .c) ?_
  refine W.q rfl rfl rfl rfl (by decide) (Yd.as rfl .c) ?_
  refine W.end ?_
  refine NX.sub (env' := [(0, _), (1, _)]) ⟨rfl, rfl, trivial⟩ ?_
  refine NX.then ?_
  refine Tr.seq ?_
  refine Tr.seq ?_
  refine Tr.region_f (fun _ => false) ?_
  refine W.q rfl rfl rfl rfl (by decide) (Yd.mv rfl (.t rfl)) ?_
  refine W.q rfl rfl rfl rfl (by decide) (Yd.lss rfl (.t rfl) .c) ?_
  refine W.q rfl rfl rfl rfl (by decide) (Yd.mv rfl (.t rfl)) ?_
  refine W.g rfl rfl rfl rfl rfl (.t rfl _) rfl (by decide) (fun hG => Yd.mv rfl (.t rfl)) ?_
  refine W.g rfl rfl rfl rfl rfl (.t rfl _) rfl (by decide) (fun hG => Yd.gtr rfl (.g rfl hG) .c) ?_
  refine W.q rfl rfl rfl rfl (by decide) (Yd.or rfl (.t rfl) .c rfl rfl) ?_
  refine W.q rfl rfl rfl rfl (by decide) (Yd.mv rfl (.t rfl)) ?_
  refine W.g rfl rfl rfl rfl rfl (.t rfl _) rfl (by decide) (fun hG => Yd.mv rfl (.t rfl)) ?_
  refine W.g rfl rfl rfl rfl rfl (.t rfl _) rfl (by decide) (fun hG => Yd.lenR hedges_1 rfl Try.underlying22 (.g rfl hG)) ?_
  refine W.g rfl rfl rfl rfl rfl (.t rfl _) rfl (by decide) (fun hG => Yd.gtr rfl (.g rfl hG) .c) ?_
  refine W.q rfl rfl rfl rfl (by decide) (Yd.or rfl (.t rfl) .c rfl rfl) ?_
  refine W.end ?_
  refine NX.sub (env' := [(0, _), (1, _), (20, _)]) ⟨rfl, rfl, rfl, trivial⟩ ?_
  refine NX.then ?_
  refine Tr.cond (.t rfl) (fun hb => ?_) (fun hb => ?_)
  · have hr := cond_t hb hr
    refine Tr.seq ?_
    refine Tr.region_f (fun _ => false) ?_
    refine W.q rfl rfl rfl rfl (by decide) (Yd.as rfl .c) ?_
    refine W.q rfl rfl rfl rfl (by decide) (Yd.as rfl .c) ?_
    refine W.end ?_
    refine NX.sub (env' := [(4, _), (5, _)]) ⟨rfl, rfl, trivial⟩ ?_
    refine NX.then ?_
    refine Tr.ret' (RT.then ?_)
    refine res2 rfl rfl rfl ?_
    intro w hc
    cases hr
    exact ⟨_, _, rfl, rfl, (cX_nilM 66 35 1 encU hc)⟩
  · have hr := cond_f hb hr
    refine Tr.skip' ?_
    refine NX.then ?_
    refine Tr.seq ?_
    obtain ⟨hq1, hr⟩ := guard_some hr; replace hq1 := of_decide_eq_true hq1
    refine Tr.region_f (fun i => Nat.beq i 1) ?_
    refine W.q rfl rfl rfl rfl (by decide) (Yd.mv rfl (.t rfl)) ?_
    refine W.e rfl rfl rfl rfl (by decide) (Ef.mkM 35 1 encU IF66 rfl rfl Try.underlying62 (.t rfl) (.t rfl) (by omega) (by omega) (by omega)) ?_
    rintro v2 _ rfl
    refine ⟨.inl rfl, ?_⟩
    refine W.cast (m' := m) (l' := hown 66 1 v2 _ _ :: hrows 35 1 encU _ _ :: l) rfl rfl ?_
    refine W.q rfl rfl rfl rfl (by decide) (Yd.as rfl (.t rfl)) ?_
    refine W.end ?_
    refine NX.sub (env' := [(0, _), (1, _), (6, _)]) ⟨rfl, rfl, rfl, trivial⟩ ?_
    refine NX.then ?_
    refine Tr.seq ?_
    refine Tr.seq ?_
    refine Tr.region_f (fun _ => false) ?_
    refine W.q rfl rfl rfl rfl (by decide) (Yd.mv rfl (.t rfl)) ?_
    refine W.q rfl rfl rfl rfl (by decide) (Yd.lenO (p := 0) rfl rfl Try.underlying62 (.t rfl)) ?_
    refine W.q rfl rfl rfl rfl (by decide) (Yd.mv rfl .c) ?_
    refine W.end ?_
    refine NX.sub (env' := [(0, _), (1, _), (6, _), (24, _), (25, _)]) ⟨rfl, rfl, rfl, rfl, rfl, trivial⟩ ?_
    refine NX.then ?_
    refine Tr.join (S := fun env x => ∃ l14 : List (List (BitVec 32)), ∃ v15 : Value, ∃ us16 : List Value, us16.length = l14.length ∧ env = [(0, .int .i64 n_0), (1, uedges_1), (6, v15)] ∧ x = ⟨m, hown 66 1 v15 l14.length us16 :: hrows 35 1 encU us16 l14 :: l⟩ ∧ grant_build_k18 n_0 edges_1 l14 = some r) ?_ (fun hk19 => ?_)
    · rintro _ _ ⟨l14, v15, us16, hw17, rfl, rfl, hr⟩
      unfold grant_build_k18 at hr
      try dsimp only at hr
      refine NX.then ?_
      refine Tr.seq ?_
      refine Tr.seq ?_
      refine Tr.region_f (fun _ => false) ?_
      refine W.q rfl rfl rfl rfl (by decide) (Yd.mv rfl (.t rfl)) ?_
      refine W.q rfl rfl rfl rfl (by decide) (Yd.lenR hedges_1 rfl Try.underlying22 (.t rfl)) ?_
      refine W.q rfl rfl rfl rfl (by decide) (Yd.mv rfl .c) ?_
      refine W.end ?_
      refine NX.sub (env' := [(0, _), (6, _), (33, _), (34, _), (35, _)]) ⟨rfl, rfl, rfl, rfl, rfl, trivial⟩ ?_
      refine NX.then ?_
      refine Tr.join (S := fun env x => ∃ l30 : List (List (BitVec 32)), ∃ v31 : Value, ∃ us32 : List Value, us32.length = l30.length ∧ env = [(6, v31)] ∧ x = ⟨m, hown 66 1 v31 l30.length us32 :: hrows 35 1 encU us32 l30 :: l⟩ ∧ grant_build_k34 l30 = some r) ?_ (fun hk35 => ?_)
      · rintro _ _ ⟨l30, v31, us32, hw33, rfl, rfl, hr⟩
        unfold grant_build_k34 at hr
        try dsimp only at hr
        refine NX.then ?_
        refine Tr.seq ?_
        refine Tr.region_f (fun _ => false) ?_
        refine W.q rfl rfl rfl rfl (by decide) (Yd.mv rfl (.t rfl)) ?_
        refine W.q rfl rfl rfl rfl (by decide) (Yd.as rfl (.t rfl)) ?_
        refine W.q rfl rfl rfl rfl (by decide) (Yd.as rfl .c) ?_
        refine W.end ?_
        refine NX.sub (env' := [(4, _), (5, _)]) ⟨rfl, rfl, trivial⟩ ?_
        refine NX.then ?_
        refine Tr.ret' ?_
        refine res2 rfl rfl rfl ?_
        intro w hc
        cases hr
        exact ⟨_, _, rfl, hw33, hc⟩
      have hlen36 := (hedges_1).2.1
      refine Tr.block ?_
      refine Tr.sub (env' := [(0, _), (6, _), (33, _), (34, _), (35, _)]) ⟨rfl, rfl, rfl, rfl, rfl, trivial⟩ ?_
      refine Tr.loop (S := fun n (z : Int × (List (List (BitVec 32)))) env x => match z with | (t_37, l26) => ∃ v27 : Value, ∃ us28 : List Value, us28.length = l26.length ∧ env = [(0, .int .i64 n_0), (6, v27), (33, uedges_1), (34, .int .i64 ((edges_1.length : Int))), (35, .int .i64 t_37)] ∧ x = ⟨m, hown 66 1 v27 l26.length us28 :: hrows 35 1 encU us28 l26 :: l⟩ ∧ n = ((edges_1.length : Int) - t_37).toNat ∧ 0 ≤ t_37 ∧ forK (σ := (List (List (BitVec 32)))) (fun i s nx_ => grant_build_b38 n_0 edges_1 i s nx_) (fun s => grant_build_k34 s) n t_37 l26 = some r) _ ((0 : Int), l14) ⟨_, _, hw17, rfl, rfl, rfl, (by omega), hr⟩ ?_
      rintro n40 ⟨t_37, l26⟩ env x ⟨v27, us28, hw29, rfl, rfl, hnt_37, h0t_37, hr⟩
      cases n40 with
      | zero =>
        simp only [forK] at hr
        refine Tr.seq ?_
        refine Tr.region_f (fun _ => false) ?_
        refine W.q rfl rfl rfl rfl (by decide) (Yd.lss rfl (.t rfl) (.t rfl)) ?_
        refine W.end ?_
        refine NX.sub (env' := [(0, _), (6, _), (33, _), (34, _), (35, _), (36, _)]) ⟨rfl, rfl, rfl, rfl, rfl, rfl, trivial⟩ ?_
        refine NX.then ?_
        refine Tr.seq ?_
        refine Tr.cond (.t rfl) (fun hb => ?_) (fun hb => ?_)
        · exact absurd (hb.symm.trans (fr_end hnt_37)) (by decide)
        ·
          refine Tr.exit' (EX.then (EX.then (EX.block ?_)))
          refine NX.sub (env' := [(6, _)]) ⟨rfl, trivial⟩ ?_
          exact hk35 _ _ ⟨_, _, _, hw29, rfl, rfl, hr⟩
      | succ n40 =>
        obtain ⟨nx39, hnx39, hr⟩ := forK_succ hr
        try dsimp only at hr
        unfold grant_build_b38 at hr
        try dsimp only at hr
        have hltt_37 := fr_bnd hnt_37
        refine Tr.seq ?_
        refine Tr.region_f (fun _ => false) ?_
        refine W.q rfl rfl rfl rfl (by decide) (Yd.lss rfl (.t rfl) (.t rfl)) ?_
        refine W.end ?_
        refine NX.sub (env' := [(0, _), (6, _), (33, _), (34, _), (35, _), (36, _)]) ⟨rfl, rfl, rfl, rfl, rfl, rfl, trivial⟩ ?_
        refine NX.then ?_
        refine Tr.seq ?_
        refine Tr.cond (.t rfl) (fun hb => ?_) (fun hb => ?_)
        rotate_left
        · exact absurd (hb.symm.trans (fr_go hnt_37)) (by decide)
        ·
          refine Tr.skip' ?_
          refine NX.then ?_
          refine Tr.seq ?_
          refine Tr.block ?_
          refine Tr.seq ?_
          obtain ⟨y41, hy42, hr⟩ := bind_some hr
          refine Tr.region_f (fun i => Nat.beq i 2 || Nat.beq i 3) ?_
          refine W.q rfl rfl rfl rfl (by decide) (Yd.idxR hedges_1 hy42 rfl Try.underlying22 SZ68 (.t rfl) (.t rfl)) ?_
          refine W.q rfl rfl rfl rfl (by decide) (Yd.ldFs (us := [_, _, _]) hedges_1 (.refl _) hy42 rfl rfl ON68 US68 SZ68 (.t rfl)) ?_
          refine W.e rfl rfl rfl rfl (by decide) (Ef.al rfl ZR68 rfl) ?_
          rintro _ _ ⟨b43, rfl, rfl⟩
          refine ⟨.inl rfl, ?_⟩
          refine W.cast (m' := m) (l' := hcells b43 [_, _, _] 68 :: hown 66 1 v27 _ _ :: hrows 35 1 encU _ _ :: l) rfl rfl ?_
          refine W.s rfl rfl rfl rfl (Ef.stB (pos := 0) (us := [_, _, _]) (cs' := [_, _, _]) rfl rfl (.t rfl) (.t rfl) SZ68 rfl rfl rfl (Nat.le_of_ble_eq_true rfl) rfl) ?_
          rintro _ _ ⟨rfl, rfl⟩
          refine ⟨.inl rfl, ?_⟩
          refine W.cast (m' := m) (l' := hcells b43 [_, _, _] 68 :: hown 66 1 v27 _ _ :: hrows 35 1 encU _ _ :: l) rfl rfl ?_
          refine W.end ?_
          refine NX.sub (env' := [(0, _), (6, _), (33, _), (34, _), (35, _), (9, _)]) ⟨rfl, rfl, rfl, rfl, rfl, rfl, trivial⟩ ?_
          refine NX.then ?_
          refine Tr.seq ?_
          refine Tr.seq ?_
          refine Tr.region_f (fun _ => false) ?_
          refine W.q rfl rfl rfl rfl (by decide) (Yd.fldB rfl Try.underlying68 rfl SZ3 rfl (.t rfl)) ?_
          refine W.q rfl rfl rfl rfl (by decide) (Yd.ldB (pos := 0) rfl rfl rfl ON3 (.t rfl)) ?_
          refine W.q rfl rfl rfl rfl (by decide) (Yd.fldB rfl Try.underlying68 rfl SZ3 rfl (.t rfl)) ?_
          refine W.q rfl rfl rfl rfl (by decide) (Yd.ldB (pos := 0) rfl rfl rfl ON3 (.t rfl)) ?_
          refine W.q rfl rfl rfl rfl (by decide) (Yd.min2 rfl (.t rfl) (.t rfl)) ?_
          refine W.q rfl rfl rfl rfl (by decide) (Yd.lss rfl (.t rfl) .c) ?_
          refine W.q rfl rfl rfl rfl (by decide) (Yd.mv rfl (.t rfl)) ?_
          refine W.g rfl rfl rfl rfl rfl (.t rfl _) rfl (by decide) (fun hG => Yd.fldB rfl Try.underlying68 rfl SZ3 rfl (.t rfl)) ?_
          refine W.g rfl rfl rfl rfl rfl (.t rfl _) rfl (by decide) (fun hG => Yd.ldB (pos := 0) rfl rfl rfl ON3 (.g rfl hG)) ?_
          refine W.g rfl rfl rfl rfl rfl (.t rfl _) rfl (by decide) (fun hG => Yd.fldB rfl Try.underlying68 rfl SZ3 rfl (.t rfl)) ?_
          refine W.g rfl rfl rfl rfl rfl (.t rfl _) rfl (by decide) (fun hG => Yd.ldB (pos := 0) rfl rfl rfl ON3 (.g rfl hG)) ?_
          refine W.g rfl rfl rfl rfl rfl (.t rfl _) rfl (by decide) (fun hG => Yd.max2 rfl (.g rfl hG) (.g rfl hG)) ?_
          refine W.g rfl rfl rfl rfl rfl (.t rfl _) rfl (by decide) (fun hG => Yd.mv rfl (.t rfl)) ?_
          refine W.g rfl rfl rfl rfl rfl (.t rfl _) rfl (by decide) (fun hG => Yd.geq rfl (.g rfl hG) (.g rfl hG)) ?_
          refine W.q rfl rfl rfl rfl (by decide) (Yd.or rfl (.t rfl) .c rfl rfl) ?_
          refine W.q rfl rfl rfl rfl (by decide) (Yd.mv rfl (.t rfl)) ?_
          refine W.g rfl rfl rfl rfl rfl (.t rfl _) rfl (by decide) (fun hG => Yd.fldB rfl Try.underlying68 rfl SZ3 rfl (.t rfl)) ?_
          refine W.g rfl rfl rfl rfl rfl (.t rfl _) rfl (by decide) (fun hG => Yd.ldB (pos := 0) rfl rfl rfl ON3 (.g rfl hG)) ?_
          refine W.g rfl rfl rfl rfl rfl (.t rfl _) rfl (by decide) (fun hG => Yd.fldB rfl Try.underlying68 rfl SZ3 rfl (.t rfl)) ?_
          refine W.g rfl rfl rfl rfl rfl (.t rfl _) rfl (by decide) (fun hG => Yd.ldB (pos := 0) rfl rfl rfl ON3 (.g rfl hG)) ?_
          refine W.g rfl rfl rfl rfl rfl (.t rfl _) rfl (by decide) (fun hG => Yd.eql rfl (.g rfl hG) (.g rfl hG)) ?_
          refine W.q rfl rfl rfl rfl (by decide) (Yd.or rfl (.t rfl) .c rfl rfl) ?_
          refine W.end ?_
          refine NX.sub (env' := [(0, _), (6, _), (33, _), (34, _), (35, _), (9, _), (60, _)]) ⟨rfl, rfl, rfl, rfl, rfl, rfl, rfl, trivial⟩ ?_
          refine NX.then ?_
          refine Tr.cond (.t rfl) (fun hb => ?_) (fun hb => ?_)
          · have hr := cond_t hb hr
            refine Tr.seq ?_
            refine Tr.region_f (fun _ => false) ?_
            refine W.q rfl rfl rfl rfl (by decide) (Yd.as rfl .c) ?_
            refine W.q rfl rfl rfl rfl (by decide) (Yd.as rfl .c) ?_
            refine W.end ?_
            refine NX.sub (env' := [(4, _), (5, _)]) ⟨rfl, rfl, trivial⟩ ?_
            refine NX.drop (l' := l) (.cons _ (.cons _ (.cons _ (.refl _)))) ?_
            refine NX.then ?_
            refine Tr.ret' (RT.then (RT.block (RT.then (RT.then (RT.block (RT.then ?_))))))
            refine res2 rfl rfl rfl ?_
            intro w hc
            cases hr
            exact ⟨_, _, rfl, rfl, (cX_nilM 66 35 1 encU hc)⟩
          · have hr := cond_f hb hr
            refine Tr.skip' ?_
            refine NX.then ?_
            obtain ⟨y45, hy46, hr⟩ := bind_some hr
            obtain ⟨y49, hy50, hr⟩ := bind_some hr
            refine Tr.region_x (fun i => Nat.beq i 13) (fun i => Nat.beq i 13) (Ord.of [0, 1, 2, 3, 4, 5, 6, 7, 8, 9, 10, 11, 12, 13]) FM (by kernel_rfl) ?_
            refine W.q rfl rfl rfl rfl (by decide) (Yd.mv rfl (.t rfl)) ?_
            refine W.q rfl rfl rfl rfl (by decide) (Yd.fldB rfl Try.underlying68 rfl SZ3 rfl (.t rfl)) ?_
            refine W.q rfl rfl rfl rfl (by decide) (Yd.ldB (pos := 0) rfl rfl rfl ON3 (.t rfl)) ?_
            refine W.q rfl rfl rfl rfl (by decide) (Yd.idxO (pos := 1) (xs := l26) rfl hy46 rfl Try.underlying62 SZ66 (.t rfl) (.t rfl)) ?_
            obtain ⟨u47, hu48⟩ := us_get hw29 hy46
            refine W.q rfl rfl rfl rfl (by decide) (Yd.ldU (pos := 1) rfl hu48 rfl ON66 (.t rfl)) ?_
            refine W.q rfl rfl rfl rfl (by decide) (Yd.fldB rfl Try.underlying68 rfl SZ3 rfl (.t rfl)) ?_
            refine W.q rfl rfl rfl rfl (by decide) (Yd.ldB (pos := 0) rfl rfl rfl ON3 (.t rfl)) ?_
            refine W.q rfl rfl rfl rfl (by decide) (Yd.idxM (pos := 2) rfl hu48 hy46 hy50 rfl Try.underlying66 SZ35 (.t rfl) (.t rfl)) ?_
            refine W.q rfl rfl rfl rfl (by decide) (Yd.ldM (enc := encU) (n := 1) (pos := 2) (fun _ => rfl) rfl hu48 hy46 hy50 rfl rfl ON35 (.t rfl)) ?_
            refine W.q rfl rfl rfl rfl (by decide) (Yd.fldB rfl Try.underlying68 rfl SZ35 rfl (.t rfl)) ?_
            refine W.q rfl rfl rfl rfl (by decide) (Yd.ldB (pos := 0) rfl rfl rfl ON35 (.t rfl)) ?_
            refine W.q rfl rfl rfl rfl (by decide) (Yd.orU (a := y49) (b := y41.rights) rfl (.t rfl) (.t rfl)) ?_
            refine W.q rfl rfl rfl rfl (by decide) (Yd.idxM (pos := 2) rfl hu48 hy46 hy50 rfl Try.underlying66 SZ35 (.t rfl) (.t rfl)) ?_
            refine W.s rfl rfl rfl rfl (Ef.stM (enc := encU) (n := 1) (pos0 := 1) (pos := 2) (y := (y49 ||| y41.rights)) (us' := [_]) (fun _ => rfl) rfl rfl hu48 hy46 hy50 rfl (.t rfl) (.t rfl) SZ35 rfl rfl rfl (by decide)) ?_
            rintro _ _ ⟨rfl, rfl⟩
            refine ⟨.inl rfl, ?_⟩
            refine W.cast (m' := m) (l' := hcells b43 [_, _, _] 68 :: hown 66 1 v27 _ _ :: hrows 35 1 encU _ _ :: l) rfl rfl ?_
            refine W.end ?_
            refine NX.sub (env' := [(0, _), (6, _), (33, _), (34, _), (35, _)]) ⟨rfl, rfl, rfl, rfl, rfl, trivial⟩ ?_
            refine NX.drop (l' := hown 66 1 v27 _ _ :: hrows 35 1 encU _ _ :: l) (.cons _ (.cons_cons _ (.cons_cons _ (.refl _)))) ?_
            refine NX.block ?_
            refine NX.then ?_
            refine Tr.region_f (fun _ => false) ?_
            refine W.q rfl rfl rfl rfl (by decide) (Yd.add rfl (.t rfl) .c) ?_
            refine W.q rfl rfl rfl rfl (by decide) (Yd.mv rfl (.t rfl)) ?_
            refine W.end ?_
            refine NX.sub (env' := [(0, _), (6, _), (33, _), (34, _), (35, _)]) ⟨rfl, rfl, rfl, rfl, rfl, trivial⟩ ?_
            refine NX.sub (env' := [(0, _), (6, _), (33, _), (34, _), (35, _)]) ⟨rfl, rfl, rfl, rfl, rfl, trivial⟩ ?_
            have hw := w64_id (n := t_37 + 1) (by omega) (by omega)
            exact NX.again n40 (t_37 + 1, (l26.set y41.src.toNat (y45.set y41.to.toNat ((y49 ||| y41.rights))))) (Nat.lt_succ_self _) ⟨_, _, (setM hw29), (by rw [hw] <;> rfl), rfl, (fr_dec hnt_37), (by omega), ((hnx39 _).symm.trans hr)⟩
    refine Tr.lenO (pos := 0) rfl (fun hlen51 => ?_)
    refine Tr.block ?_
    refine Tr.sub (env' := [(0, _), (1, _), (6, _), (24, _), (25, _)]) ⟨rfl, rfl, rfl, rfl, rfl, trivial⟩ ?_
    refine Tr.loop (S := fun n (z : Int × (List (List (BitVec 32)))) env x => match z with | (t_52, l10) => ∃ v11 : Value, ∃ us12 : List Value, us12.length = l10.length ∧ env = [(0, .int .i64 n_0), (1, uedges_1), (6, v11), (24, .int .i64 ((((List.replicate n_0.toNat ([] : List (BitVec 32)))).length : Int))), (25, .int .i64 t_52)] ∧ x = ⟨m, hown 66 1 v11 l10.length us12 :: hrows 35 1 encU us12 l10 :: l⟩ ∧ n = ((((List.replicate n_0.toNat ([] : List (BitVec 32)))).length : Int) - t_52).toNat ∧ 0 ≤ t_52 ∧ forK (σ := (List (List (BitVec 32)))) (fun i s nx_ => grant_build_b53 i s nx_) (fun s => grant_build_k18 n_0 edges_1 s) n t_52 l10 = some r) _ ((0 : Int), (List.replicate n_0.toNat ([] : List (BitVec 32)))) ⟨_, _, (lenRep : (List.replicate n_0.toNat (Value.slice none 0 0)).length = (List.replicate n_0.toNat ([] : List (BitVec 32))).length), rfl, rfl, rfl, (by omega), hr⟩ ?_
    rintro n55 ⟨t_52, l10⟩ env x ⟨v11, us12, hw13, rfl, rfl, hnt_52, h0t_52, hr⟩
    cases n55 with
    | zero =>
      simp only [forK] at hr
      refine Tr.seq ?_
      refine Tr.region_f (fun _ => false) ?_
      refine W.q rfl rfl rfl rfl (by decide) (Yd.lss rfl (.t rfl) (.t rfl)) ?_
      refine W.end ?_
      refine NX.sub (env' := [(0, _), (1, _), (6, _), (24, _), (25, _), (26, _)]) ⟨rfl, rfl, rfl, rfl, rfl, rfl, trivial⟩ ?_
      refine NX.then ?_
      refine Tr.seq ?_
      refine Tr.cond (.t rfl) (fun hb => ?_) (fun hb => ?_)
      · exact absurd (hb.symm.trans (fr_end hnt_52)) (by decide)
      ·
        refine Tr.exit' (EX.then (EX.then (EX.block ?_)))
        refine NX.sub (env' := [(0, _), (1, _), (6, _)]) ⟨rfl, rfl, rfl, trivial⟩ ?_
        exact hk19 _ _ ⟨_, _, _, hw13, rfl, rfl, hr⟩
    | succ n55 =>
      obtain ⟨nx54, hnx54, hr⟩ := forK_succ hr
      try dsimp only at hr
      unfold grant_build_b53 at hr
      try dsimp only at hr
      have hltt_52 := fr_bnd hnt_52
      refine Tr.seq ?_
      refine Tr.region_f (fun _ => false) ?_
      refine W.q rfl rfl rfl rfl (by decide) (Yd.lss rfl (.t rfl) (.t rfl)) ?_
      refine W.end ?_
      refine NX.sub (env' := [(0, _), (1, _), (6, _), (24, _), (25, _), (26, _)]) ⟨rfl, rfl, rfl, rfl, rfl, rfl, trivial⟩ ?_
      refine NX.then ?_
      refine Tr.seq ?_
      refine Tr.cond (.t rfl) (fun hb => ?_) (fun hb => ?_)
      rotate_left
      · exact absurd (hb.symm.trans (fr_go hnt_52)) (by decide)
      ·
        refine Tr.skip' ?_
        refine NX.then ?_
        refine Tr.seq ?_
        refine Tr.block ?_
        refine Tr.seq ?_
        refine Tr.region_f (fun _ => false) ?_
        refine W.q rfl rfl rfl rfl (by decide) (Yd.mv rfl (.t rfl)) ?_
        refine W.q rfl rfl rfl rfl (by decide) (Yd.as rfl (.t rfl)) ?_
        refine W.end ?_
        refine NX.sub (env' := [(0, _), (1, _), (6, _), (24, _), (25, _), (7, _)]) ⟨rfl, rfl, rfl, rfl, rfl, rfl, trivial⟩ ?_
        refine NX.then ?_
        obtain ⟨hq56, hr⟩ := guard_some hr; replace hq56 := of_decide_eq_true hq56
        obtain ⟨y59, hy60, hr⟩ := bind_some hr
        refine Tr.region_f (fun i => Nat.beq i 2 || Nat.beq i 4) ?_
        refine W.q rfl rfl rfl rfl (by decide) (Yd.mv rfl (.t rfl)) ?_
        refine W.q rfl rfl rfl rfl (by decide) (Yd.mv rfl (.t rfl)) ?_
        refine W.e rfl rfl rfl rfl (by decide) (Ef.mkT (enc := encU) (0#32) IF35 rfl Try.underlying66 rfl rfl (by decide) .c .c (by omega) (by omega) (by omega)) ?_
        rintro v57 _ rfl
        refine ⟨.inl rfl, ?_⟩
        refine W.cast (m' := m) (l' := hownT 35 1 encU v57 _ :: hown 66 1 v11 _ _ :: hrows 35 1 encU _ _ :: l) rfl rfl ?_
        refine W.q rfl rfl rfl rfl (by decide) (Yd.idxO (pos := 1) (xs := l10) rfl hy60 rfl Try.underlying62 SZ66 (.t rfl) (.t rfl)) ?_
        refine W.s rfl rfl rfl rfl (Ef.stR (pos := 1) (pos2 := 0) (xss := l10) ((List.replicate ((14 : Int)).toNat (0#32))) rfl rfl hy60 hw13 rfl (.t rfl) (.t rfl) SZ66) ?_
        rintro _ _ ⟨rfl, rfl⟩
        refine ⟨.inl rfl, ?_⟩
        refine W.cast (m' := m) (l' := hownT 35 1 encU v57 _ :: hown 66 1 v11 _ _ :: hrows 35 1 encU _ _ :: l) rfl rfl ?_
        refine W.end ?_
        refine NX.imp (fun w hw => cX_setM (po := 0) (pr := 1) (i := t_52.toNat) rfl rfl (geti_some hy60).2.2 hw) ?_
        refine NX.cast (m' := m) (l' := hown 66 1 v11 _ _ :: hrows 35 1 encU _ _ :: l) rfl rfl ?_
        refine NX.sub (env' := [(0, _), (1, _), (6, _), (24, _), (25, _)]) ⟨rfl, rfl, rfl, rfl, rfl, trivial⟩ ?_
        refine NX.block ?_
        refine NX.then ?_
        refine Tr.region_f (fun _ => false) ?_
        refine W.q rfl rfl rfl rfl (by decide) (Yd.add rfl (.t rfl) .c) ?_
        refine W.q rfl rfl rfl rfl (by decide) (Yd.mv rfl (.t rfl)) ?_
        refine W.end ?_
        refine NX.sub (env' := [(0, _), (1, _), (6, _), (24, _), (25, _)]) ⟨rfl, rfl, rfl, rfl, rfl, trivial⟩ ?_
        refine NX.sub (env' := [(0, _), (1, _), (6, _), (24, _), (25, _)]) ⟨rfl, rfl, rfl, rfl, rfl, trivial⟩ ?_
        have hw := w64_id (n := t_52 + 1) (by omega) (by omega)
        exact NX.again n55 (t_52 + 1, (l10.set t_52.toNat ((List.replicate ((14 : Int)).toNat (0#32))))) (Nat.lt_succ_self _) ⟨_, _, (lenSet hw13), (by rw [hw] <;> rfl), rfl, (fr_dec hnt_52), (by omega), ((hnx54 _).symm.trans hr)⟩

def grant_graph_do_c1 (i_0 : Int) (cp_0 : (List (List (BitVec 32)))) : Option (Bool) :=
  some (((decide (i_0 ≥ (0 : Int))) && (decide (i_0 < (cp_0.length : Int)))))

set_option maxRecDepth 100000 in
set_option maxHeartbeats 4000000 in
theorem grant_graph_do_c1_ok (w0 : World) (m : Snap) (l : List HI) (i_0 : Int) (fb0 : Nat) (uk0 : Value) (cp_0 : (List (List (BitVec 32)))) (hk0 : RS (Rp.slice rU) m uk0 cp_0) (hK0 : Bk m fb0 62 [uk0]) (r : Bool) (hr : grant_graph_do_c1 i_0 cp_0 = some r) (w : World) (hc : cX w0 ⟨m, l⟩ w) :
    Calls Try.prog 39 [.int .i64 i_0, bp fb0 0].toArray w fun e w' => e = .returned (.bool r) ∧ cX w0 ⟨m, l⟩ w' := by
  unfold grant_graph_do_c1 at hr
  refine calls_of_Tr (N := 12) Try.func39 rfl hc rfl (Nat.le_of_ble_eq_true rfl) ?_
  refine Tr.seq ?_
  refine Tr.region_f (fun _ => false) ?_
  refine W.q rfl rfl rfl rfl (by decide) (Yd.as rfl .c) ?_
  refine W.end ?_
  refine NX.sub (env' := [(0, _), (1, _)]) ⟨rfl, rfl, trivial⟩ ?_
  refine NX.then ?_
  refine Tr.seq ?_
  refine Tr.region_f (fun _ => false) ?_
  refine W.q rfl rfl rfl rfl (by decide) (Yd.mv rfl (.t rfl)) ?_
  refine W.q rfl rfl rfl rfl (by decide) (Yd.geq rfl (.t rfl) .c) ?_
  refine W.q rfl rfl rfl rfl (by decide) (Yd.mv rfl (.t rfl)) ?_
  refine W.g rfl rfl rfl rfl rfl (.t rfl _) rfl (by decide) (fun hG => Yd.mv rfl (.t rfl)) ?_
  refine W.g rfl rfl rfl rfl rfl (.t rfl _) rfl (by decide) (fun hG => Yd.ldK hK0 rfl rfl ON62 (.t rfl)) ?_
  refine W.g rfl rfl rfl rfl rfl (.t rfl _) rfl (by decide) (fun hG => Yd.lenR hk0 rfl Try.underlying62 (.g rfl hG)) ?_
  refine W.g rfl rfl rfl rfl rfl (.t rfl _) rfl (by decide) (fun hG => Yd.lss rfl (.g rfl hG) (.g rfl hG)) ?_
  refine W.q rfl rfl rfl rfl (by decide) (Yd.and rfl (.t rfl) .c rfl rfl) ?_
  refine W.q rfl rfl rfl rfl (by decide) (Yd.as rfl (.t rfl)) ?_
  refine W.end ?_
  refine NX.sub (env' := [(3, _)]) ⟨rfl, trivial⟩ ?_
  refine NX.then ?_
  refine Tr.ret' ?_
  refine res1 rfl rfl ?_
  intro w hc
  cases hr
  exact ⟨rfl, hc⟩

def grant_graph_do_k6 (g_0 : (List (List (BitVec 32)))) (d_1 : Deed) (gets_5 : Int) : Option (Int × (List (List (BitVec 32)))) :=
  (bif ((decide (d_1.kind < (1 : Int))) || (decide (d_1.kind > (4 : Int)))) then
  some (((6 : Int), g_0))
  else
  (grant_graph_do_c1 d_1.by_ g_0).bind fun r8 =>
  bif (!(((!r8) == false) && ((d_1.kind != (3 : Int)) == true)) || (grant_graph_do_c1 d_1.to g_0).isSome) then
  bif (!((((!r8) || ((d_1.kind != (3 : Int)) && ((!(((grant_graph_do_c1 d_1.to g_0).getD false))) || (d_1.by_ == d_1.to)))) == false) && (((d_1.kind == (1 : Int)) || (d_1.kind == (2 : Int))) == true)) || (grant_graph_do_c1 d_1.label.level g_0).isSome) then
  (bif (((!r8) || ((d_1.kind != (3 : Int)) && ((!(((grant_graph_do_c1 d_1.to g_0).getD false))) || (d_1.by_ == d_1.to)))) || (((d_1.kind == (1 : Int)) || (d_1.kind == (2 : Int))) && ((!(((grant_graph_do_c1 d_1.label.level g_0).getD false))) || (d_1.label.level == gets_5)))) then
  some (((2 : Int), g_0))
  else
  (bif (d_1.kind == (1 : Int)) then
  (geti g_0 d_1.by_).bind fun y12 =>
  (geti y12 d_1.to).bind fun y16 =>
  bif (!(((y16 &&& 1#32) == 0#32) == false) || (geti g_0 d_1.to).isSome) then
  bif (!(((y16 &&& 1#32) == 0#32) == false) || (geti (((geti g_0 d_1.to).getD [])) d_1.label.level).isSome) then
  (bif (((y16 &&& 1#32) == 0#32) || ((d_1.label.parts &&& ~~~((geti (((geti g_0 d_1.to).getD [])) d_1.label.level).getD (0#32))) != 0#32)) then
  some (((7 : Int), g_0))
  else
  (geti g_0 d_1.by_).bind fun y22 =>
  (geti y22 d_1.label.level).bind fun y26 =>
  some (((0 : Int), (g_0.set d_1.by_.toNat (y22.set d_1.label.level.toNat ((y26 ||| d_1.label.parts))))))) else none else none
  else
  (bif (d_1.kind == (2 : Int)) then
  (geti g_0 d_1.by_).bind fun y28 =>
  (geti y28 d_1.to).bind fun y32 =>
  bif (!(((y32 &&& 2#32) == 0#32) == false) || (geti y28 d_1.label.level).isSome) then
  (bif (((y32 &&& 2#32) == 0#32) || ((d_1.label.parts &&& ~~~((geti y28 d_1.label.level).getD (0#32))) != 0#32)) then
  some (((7 : Int), g_0))
  else
  (geti g_0 d_1.to).bind fun y37 =>
  (geti y37 d_1.label.level).bind fun y41 =>
  some (((0 : Int), (g_0.set d_1.to.toNat (y37.set d_1.label.level.toNat ((y41 ||| d_1.label.parts))))))) else none
  else
  (bif (d_1.kind == (3 : Int)) then
  (bif ((g_0.length : Int) == (14 : Int)) then
  some (((1 : Int), g_0))
  else
  (geti g_0 d_1.by_).bind fun y43 =>
  (geti y43 ((g_0.length : Int))).bind fun y47 =>
  bif decide (0 ≤ (14 : Int) ∧ (14 : Int) ≤ 1048576) then
  bif decide (((g_0.set d_1.by_.toNat (y43.set ((g_0.length : Int)).toNat (3#32)))).length + 1 ≤ 5864062014805) then
  some (((0 : Int), ((g_0.set d_1.by_.toNat (y43.set ((g_0.length : Int)).toNat (3#32))) ++ [(List.replicate ((14 : Int)).toNat (0#32))]))) else none else none)
  else
  (bif (d_1.kind == (4 : Int)) then
  (geti g_0 d_1.by_).bind fun y56 =>
  (geti y56 d_1.to).bind fun y60 =>
  some (((0 : Int), (g_0.set d_1.by_.toNat (y56.set d_1.to.toNat ((y60 &&& ~~~d_1.label.parts))))))
  else
  some (((0 : Int), g_0))))))) else none else none)

def grant_graph_do (g_0 : (List (List (BitVec 32)))) (d_1 : Deed) : Option (Int × (List (List (BitVec 32)))) :=
  (bif (d_1.kind == (2 : Int)) then
  grant_graph_do_k6 g_0 d_1 d_1.to
  else
  grant_graph_do_k6 g_0 d_1 d_1.by_)

set_option maxRecDepth 100000 in
set_option maxHeartbeats 4000000 in
theorem grant_graph_do_ok (w0 : World) (m : Snap) (l : List HI) (bg_0 : Nat) (g_0 : (List (List (BitVec 32)))) (ug_0_0 : Value) (usg_0_0 : List Value) (husg_0_0 : usg_0_0.length = g_0.length) (d_1 : Deed) (r : Int × (List (List (BitVec 32)))) (hr : grant_graph_do g_0 d_1 = some r) (w : World) (hc : cX w0 ⟨m, hcells bg_0 [ug_0_0] 62 :: hown 66 1 ug_0_0 g_0.length usg_0_0 :: hrows 35 1 encU usg_0_0 g_0 :: l⟩ w) :
    Calls Try.prog 23 [bp bg_0 0, .agg #[.int .i64 d_1.kind, .int .i64 d_1.by_, .int .i64 d_1.to, .int .i64 d_1.label.level, .int .u32 (d_1.label.parts.toNat : Int), .int .i64 d_1.val]].toArray w fun e w' => ∃ q0 : Value, ∃ qq0 : List Value, e = .returned (.int .i64 r.1) ∧ qq0.length = r.2.length ∧ cX w0 ⟨m, hcells bg_0 [q0] 62 :: hown 66 1 q0 r.2.length qq0 :: hrows 35 1 encU qq0 r.2 :: l⟩ w' := by
  unfold grant_graph_do at hr
  refine calls_of_Tr (N := 193) Try.func23 rfl hc rfl (Nat.le_of_ble_eq_true rfl) ?_
  refine Tr.seq ?_
  refine Tr.region_f (fun i => Nat.beq i 0) ?_
  refine W.e rfl rfl rfl rfl (by decide) (Ef.bx rfl (.t rfl) rfl) ?_
  rintro _ _ ⟨b1, rfl, rfl⟩
  refine ⟨.inl rfl, ?_⟩
  refine W.cast (m' := m) (l' := hcells b1 [_, _, _, _, _, _] 46 :: hcells bg_0 [_] 62 :: hown 66 1 ug_0_0 _ _ :: hrows 35 1 encU _ _ :: l) rfl rfl ?_
  refine W.q rfl rfl rfl rfl (by decide) (Yd.as rfl .c) ?_
  refine W.end ?_
  refine NX.sub (env' := [(0, _), (3, _)]) ⟨rfl, rfl, trivial⟩ ?_
  refine NX.then ?_
  refine Tr.seq ?_
  refine Tr.region_f (fun i => Nat.beq i 3 || Nat.beq i 4) ?_
  refine W.q rfl rfl rfl rfl (by decide) (Yd.mv rfl (.t rfl)) ?_
  refine W.q rfl rfl rfl rfl (by decide) (Yd.nilc rfl (.t rfl)) ?_
  refine W.q rfl rfl rfl rfl (by decide) (Yd.ldB (pos := 1) rfl rfl rfl ON62 (.t rfl)) ?_
  refine W.e rfl rfl rfl rfl (by decide) (Ef.al rfl ZR62 rfl) ?_
  rintro _ _ ⟨b3, rfl, rfl⟩
  refine ⟨.inl rfl, ?_⟩
  refine W.cast (m' := m) (l' := hcells b3 [_] 62 :: hcells b1 [_, _, _, _, _, _] 46 :: hcells bg_0 [_] 62 :: hown 66 1 ug_0_0 _ _ :: hrows 35 1 encU _ _ :: l) rfl rfl ?_
  refine W.s rfl rfl rfl rfl (Ef.stBo (pos := 0) (pos2 := 3) (cs' := [_]) rfl rfl rfl (.t rfl) (.t rfl) SZ62 (Nat.le_of_ble_eq_true rfl) rfl) ?_
  rintro _ _ ⟨rfl, rfl⟩
  refine ⟨.inl rfl, ?_⟩
  refine W.cast (m' := m) (l' := hcells b3 [_] 62 :: hcells b1 [_, _, _, _, _, _] 46 :: hcells bg_0 [_] 62 :: hown 66 1 ug_0_0 _ _ :: hrows 35 1 encU _ _ :: l) rfl rfl ?_
  refine W.end ?_
  refine NX.sub (env' := [(0, _), (3, _), (5, _)]) ⟨rfl, rfl, rfl, trivial⟩ ?_
  refine NX.then ?_
  refine Tr.seq ?_
  refine Tr.region_f (fun _ => false) ?_
  refine W.q rfl rfl rfl rfl (by decide) (Yd.mkf rfl (.cons (.t rfl) .nil)) ?_
  refine W.q rfl rfl rfl rfl (by decide) (Yd.as rfl (.t rfl)) ?_
  refine W.end ?_
  refine NX.sub (env' := [(0, _), (3, _), (5, _), (6, _)]) ⟨rfl, rfl, rfl, rfl, trivial⟩ ?_
  refine NX.then ?_
  refine Tr.seq ?_
  refine Tr.region_f (fun _ => false) ?_
  refine W.q rfl rfl rfl rfl (by decide) (Yd.fldB rfl Try.underlying46 rfl SZ3 rfl (.t rfl)) ?_
  refine W.q rfl rfl rfl rfl (by decide) (Yd.ldB (pos := 1) rfl rfl rfl ON3 (.t rfl)) ?_
  refine W.q rfl rfl rfl rfl (by decide) (Yd.eql rfl (.t rfl) .c) ?_
  refine W.q rfl rfl rfl rfl (by decide) (Yd.mv rfl (.t rfl)) ?_
  refine W.g rfl rfl rfl rfl rfl (.t rfl _) rfl (by decide) (fun hG => Yd.fldB rfl Try.underlying46 rfl SZ3 rfl (.t rfl)) ?_
  refine W.g rfl rfl rfl rfl rfl (.t rfl _) rfl (by decide) (fun hG => Yd.ldB (pos := 1) rfl rfl rfl ON3 (.g rfl hG)) ?_
  refine W.g rfl rfl rfl rfl rfl (.t rfl _) rfl (by decide) (fun hG => Yd.eql rfl (.g rfl hG) .c) ?_
  refine W.q rfl rfl rfl rfl (by decide) (Yd.or rfl (.t rfl) .c rfl rfl) ?_
  refine W.q rfl rfl rfl rfl (by decide) (Yd.as rfl (.t rfl)) ?_
  refine W.end ?_
  refine NX.sub (env' := [(0, _), (3, _), (5, _), (6, _), (7, _)]) ⟨rfl, rfl, rfl, rfl, rfl, trivial⟩ ?_
  refine NX.then ?_
  refine Tr.seq ?_
  refine Tr.region_x (fun _ => false) (fun _ => false) (Ord.of [0, 1, 2, 3, 4, 5, 6, 7]) FM (by kernel_rfl) ?_
  refine W.q rfl rfl rfl rfl (by decide) (Yd.fldB rfl Try.underlying46 rfl SZ44 rfl (.t rfl)) ?_
  refine W.q rfl rfl rfl rfl (by decide) (Yd.fldB rfl Try.underlying44 rfl SZ3 rfl (.t rfl)) ?_
  refine W.q rfl rfl rfl rfl (by decide) (Yd.ldB (pos := 1) rfl rfl rfl ON3 (.t rfl)) ?_
  refine W.q rfl rfl rfl rfl (by decide) (Yd.fldB rfl Try.underlying46 rfl SZ44 rfl (.t rfl)) ?_
  refine W.q rfl rfl rfl rfl (by decide) (Yd.fldB rfl Try.underlying44 rfl SZ35 rfl (.t rfl)) ?_
  refine W.q rfl rfl rfl rfl (by decide) (Yd.ldB (pos := 1) rfl rfl rfl ON35 (.t rfl)) ?_
  refine W.q rfl rfl rfl rfl (by decide) (Yd.as rfl (.t rfl)) ?_
  refine W.q rfl rfl rfl rfl (by decide) (Yd.as rfl (.t rfl)) ?_
  refine W.end ?_
  refine NX.sub (env' := [(0, _), (3, _), (5, _), (6, _), (7, _), (8, _), (9, _)]) ⟨rfl, rfl, rfl, rfl, rfl, rfl, rfl, trivial⟩ ?_
  refine NX.then ?_
  refine Tr.seq ?_
  refine Tr.region_f (fun _ => false) ?_
  refine W.q rfl rfl rfl rfl (by decide) (Yd.fldB rfl Try.underlying46 rfl SZ3 rfl (.t rfl)) ?_
  refine W.q rfl rfl rfl rfl (by decide) (Yd.ldB (pos := 1) rfl rfl rfl ON3 (.t rfl)) ?_
  refine W.q rfl rfl rfl rfl (by decide) (Yd.as rfl (.t rfl)) ?_
  refine W.end ?_
  refine NX.sub (env' := [(0, _), (3, _), (5, _), (6, _), (7, _), (8, _), (9, _), (10, _)]) ⟨rfl, rfl, rfl, rfl, rfl, rfl, rfl, rfl, trivial⟩ ?_
  refine NX.then ?_
  refine Tr.seq ?_
  refine Tr.seq ?_
  refine Tr.region_f (fun _ => false) ?_
  refine W.q rfl rfl rfl rfl (by decide) (Yd.fldB rfl Try.underlying46 rfl SZ3 rfl (.t rfl)) ?_
  refine W.q rfl rfl rfl rfl (by decide) (Yd.ldB (pos := 1) rfl rfl rfl ON3 (.t rfl)) ?_
  refine W.q rfl rfl rfl rfl (by decide) (Yd.eql rfl (.t rfl) .c) ?_
  refine W.end ?_
  refine NX.sub (env' := [(0, _), (3, _), (5, _), (6, _), (7, _), (8, _), (9, _), (10, _), (33, _)]) ⟨rfl, rfl, rfl, rfl, rfl, rfl, rfl, rfl, rfl, trivial⟩ ?_
  refine NX.then ?_
  refine Tr.join (S := fun env x => ∃ gets_5 : Int, env = [(0, bp bg_0 0), (3, bp b1 0), (5, bp b3 0), (6, .func (.func 39) #[] #[bp b3 0]), (7, .bool (((d_1.kind == (1 : Int)) || (d_1.kind == (2 : Int))))), (8, .int .i64 d_1.label.level), (9, .int .u32 (d_1.label.parts.toNat : Int)), (10, .int .i64 gets_5)] ∧ x = ⟨m, hcells b3 [ug_0_0] 62 :: hcells b1 [.int .i64 d_1.kind, .int .i64 d_1.by_, .int .i64 d_1.to, .int .i64 d_1.label.level, .int .u32 (d_1.label.parts.toNat : Int), .int .i64 d_1.val] 46 :: hcells bg_0 [ug_0_0] 62 :: hown 66 1 ug_0_0 g_0.length usg_0_0 :: hrows 35 1 encU usg_0_0 g_0 :: l⟩ ∧ grant_graph_do_k6 g_0 d_1 gets_5 = some r) ?_ (fun hk7 => ?_)
  · rintro _ _ ⟨gets_5, rfl, rfl, hr⟩
    unfold grant_graph_do_k6 at hr
    try dsimp only at hr
    refine NX.then ?_
    refine Tr.seq ?_
    refine Tr.block ?_
    refine Tr.seq ?_
    refine Tr.region_f (fun _ => false) ?_
    refine W.q rfl rfl rfl rfl (by decide) (Yd.fldB rfl Try.underlying46 rfl SZ3 rfl (.t rfl)) ?_
    refine W.q rfl rfl rfl rfl (by decide) (Yd.ldB (pos := 1) rfl rfl rfl ON3 (.t rfl)) ?_
    refine W.q rfl rfl rfl rfl (by decide) (Yd.lss rfl (.t rfl) .c) ?_
    refine W.q rfl rfl rfl rfl (by decide) (Yd.mv rfl (.t rfl)) ?_
    refine W.g rfl rfl rfl rfl rfl (.t rfl _) rfl (by decide) (fun hG => Yd.fldB rfl Try.underlying46 rfl SZ3 rfl (.t rfl)) ?_
    refine W.g rfl rfl rfl rfl rfl (.t rfl _) rfl (by decide) (fun hG => Yd.ldB (pos := 1) rfl rfl rfl ON3 (.g rfl hG)) ?_
    refine W.g rfl rfl rfl rfl rfl (.t rfl _) rfl (by decide) (fun hG => Yd.gtr rfl (.g rfl hG) .c) ?_
    refine W.q rfl rfl rfl rfl (by decide) (Yd.or rfl (.t rfl) .c rfl rfl) ?_
    refine W.q rfl rfl rfl rfl (by decide) (Yd.as rfl (.t rfl)) ?_
    refine W.end ?_
    refine NX.sub (env' := [(0, _), (3, _), (5, _), (6, _), (7, _), (8, _), (9, _), (10, _), (36, _)]) ⟨rfl, rfl, rfl, rfl, rfl, rfl, rfl, rfl, rfl, trivial⟩ ?_
    refine NX.then ?_
    refine Tr.cond (.t rfl) (fun hb => ?_) (fun hb => ?_)
    · have hr := cond_t hb hr
      refine Tr.seq ?_
      refine Tr.region_f (fun _ => false) ?_
      refine W.q rfl rfl rfl rfl (by decide) (Yd.as rfl .c) ?_
      refine W.end ?_
      refine NX.sub (env' := [(4, _)]) ⟨rfl, trivial⟩ ?_
      refine NX.drop (l' := hcells bg_0 [_] 62 :: hown 66 1 ug_0_0 _ _ :: hrows 35 1 encU _ _ :: l) (.cons _ (.cons _ (.cons_cons _ (.cons_cons _ (.cons_cons _ (.refl _)))))) ?_
      refine NX.then ?_
      refine Tr.ret' (RT.block (RT.then ?_))
      refine res1 rfl rfl ?_
      intro w hc
      cases hr
      exact ⟨_, _, rfl, husg_0_0, hc⟩
    · have hr := cond_f hb hr
      refine Tr.seq ?_
      obtain ⟨r8, hr9, hr⟩ := bind_some hr
      obtain ⟨ha10, hr⟩ := guard_some hr
      obtain ⟨ha11, hr⟩ := guard_some hr
      refine Tr.region_f (fun _ => false) ?_
      refine W.q rfl rfl rfl rfl (by decide) (Yd.mv rfl (.t rfl)) ?_
      refine W.q rfl rfl rfl rfl (by decide) (Yd.fldB rfl Try.underlying46 rfl SZ3 rfl (.t rfl)) ?_
      refine W.q rfl rfl rfl rfl (by decide) (Yd.ldB (pos := 1) rfl rfl rfl ON3 (.t rfl)) ?_
      refine W.q rfl rfl rfl rfl (by decide) (Yd.callC (v := .bool r8) rfl (.t rfl) Try.func39 rfl rfl (.cons (.t rfl) .nil) (by intro x' hx w hw; obtain ⟨m2, hm2, hL, hc2, hback⟩ := cX_lendAll (m := x'.m) (l := x'.l) hw; obtain ⟨pk0, hpk0⟩ := hx.at (p := 0) rfl; have hbk0 := Bk.of (lent_at hL hpk0); obtain ⟨q0, hq0⟩ := hx.at (p := 3) rfl; obtain ⟨q0r, hq0r⟩ := hx.at (p := 4) rfl; have hL1 := RS_of_mat (enc := encU) (n := 1) (fun _ => rfl) (lent_at hL hq0) (lent_at hL hq0r); exact (grant_graph_do_c1_ok w0 m2 [] d_1.by_ _ _ g_0 hL1 hbk0 _ hr9 w hc2).mono fun e w' ⟨he, hc'⟩ => ⟨he, hback [] w' hc'⟩)) ?_
      refine W.q rfl rfl rfl rfl (by decide) (Yd.not rfl (.t rfl)) ?_
      refine W.q rfl rfl rfl rfl (by decide) (Yd.mv rfl (.t rfl)) ?_
      refine W.g rfl rfl rfl rfl rfl (.t rfl _) rfl (by decide) (fun hG => Yd.fldB rfl Try.underlying46 rfl SZ3 rfl (.t rfl)) ?_
      refine W.g rfl rfl rfl rfl rfl (.t rfl _) rfl (by decide) (fun hG => Yd.ldB (pos := 1) rfl rfl rfl ON3 (.g rfl hG)) ?_
      refine W.g rfl rfl rfl rfl rfl (.t rfl _) rfl (by decide) (fun hG => Yd.neq rfl (.g rfl hG) .c) ?_
      refine W.g rfl rfl rfl rfl rfl (.t rfl _) rfl (by decide) (fun hG => Yd.mv rfl (.g rfl hG)) ?_
      refine W.g rfl rfl rfl rfl rfl (.g rfl _) rfl (by decide) (fun hG => Yd.mv rfl (.t rfl)) ?_
      refine W.g rfl rfl rfl rfl rfl (.g rfl _) rfl (by decide) (fun hG => Yd.fldB rfl Try.underlying46 rfl SZ3 rfl (.t rfl)) ?_
      refine W.g rfl rfl rfl rfl rfl (.g rfl _) rfl (by decide) (fun hG => Yd.ldB (pos := 1) rfl rfl rfl ON3 (.g rfl hG)) ?_
      refine W.g rfl rfl rfl rfl rfl (.g rfl _) rfl (by decide) (fun hG => Yd.callC (v := .bool ((((grant_graph_do_c1 d_1.to g_0).getD false)))) rfl (.g rfl hG) Try.func39 rfl rfl (.cons (.g rfl hG) .nil) (by intro x' hx w hw; obtain ⟨m2, hm2, hL, hc2, hback⟩ := cX_lendAll (m := x'.m) (l := x'.l) hw; obtain ⟨pk0, hpk0⟩ := hx.at (p := 0) rfl; have hbk0 := Bk.of (lent_at hL hpk0); obtain ⟨q0, hq0⟩ := hx.at (p := 3) rfl; obtain ⟨q0r, hq0r⟩ := hx.at (p := 4) rfl; have hL1 := RS_of_mat (enc := encU) (n := 1) (fun _ => rfl) (lent_at hL hq0) (lent_at hL hq0r); exact (grant_graph_do_c1_ok w0 m2 [] d_1.to _ _ g_0 hL1 hbk0 _ (gd_get (d := false) ha10 hG) w hc2).mono fun e w' ⟨he, hc'⟩ => ⟨he, hback [] w' hc'⟩)) ?_
      refine W.g rfl rfl rfl rfl rfl (.g rfl _) rfl (by decide) (fun hG => Yd.not rfl (.g rfl hG)) ?_
      refine W.g rfl rfl rfl rfl rfl (.g rfl _) rfl (by decide) (fun hG => Yd.mv rfl (.g rfl hG)) ?_
      refine W.g rfl rfl rfl rfl rfl (.g rfl _) rfl (by decide) (fun hG => Yd.fldB rfl Try.underlying46 rfl SZ3 rfl (.t rfl)) ?_
      refine W.g rfl rfl rfl rfl rfl (.g rfl _) rfl (by decide) (fun hG => Yd.ldB (pos := 1) rfl rfl rfl ON3 (.g rfl hG)) ?_
      refine W.g rfl rfl rfl rfl rfl (.g rfl _) rfl (by decide) (fun hG => Yd.fldB rfl Try.underlying46 rfl SZ3 rfl (.t rfl)) ?_
      refine W.g rfl rfl rfl rfl rfl (.g rfl _) rfl (by decide) (fun hG => Yd.ldB (pos := 1) rfl rfl rfl ON3 (.g rfl hG)) ?_
      refine W.g rfl rfl rfl rfl rfl (.g rfl _) rfl (by decide) (fun hG => Yd.eql rfl (.g rfl hG) (.g rfl hG)) ?_
      refine W.g rfl rfl rfl rfl rfl (.g rfl _) rfl (by decide) (fun hG => Yd.orG rfl (.g rfl hG) .c rfl rfl hG) ?_
      refine W.g rfl rfl rfl rfl rfl (.t rfl _) rfl (by decide) (fun hG => Yd.andG rfl (.g rfl hG) .c rfl rfl hG) ?_
      refine W.q rfl rfl rfl rfl (by decide) (Yd.or rfl (.t rfl) .c rfl rfl) ?_
      refine W.q rfl rfl rfl rfl (by decide) (Yd.mv rfl (.t rfl)) ?_
      refine W.g rfl rfl rfl rfl rfl (.t rfl _) rfl (by decide) (fun hG => Yd.mv rfl (.t rfl)) ?_
      refine W.g rfl rfl rfl rfl rfl (.t rfl _) rfl (by decide) (fun hG => Yd.mv rfl (.g rfl hG)) ?_
      refine W.g rfl rfl rfl rfl rfl (.g rfl _) rfl (by decide) (fun hG => Yd.mv rfl (.t rfl)) ?_
      refine W.g rfl rfl rfl rfl rfl (.g rfl _) rfl (by decide) (fun hG => Yd.mv rfl (.t rfl)) ?_
      refine W.g rfl rfl rfl rfl rfl (.g rfl _) rfl (by decide) (fun hG => Yd.callC (v := .bool ((((grant_graph_do_c1 d_1.label.level g_0).getD false)))) rfl (.g rfl hG) Try.func39 rfl rfl (.cons (.g rfl hG) .nil) (by intro x' hx w hw; obtain ⟨m2, hm2, hL, hc2, hback⟩ := cX_lendAll (m := x'.m) (l := x'.l) hw; obtain ⟨pk0, hpk0⟩ := hx.at (p := 0) rfl; have hbk0 := Bk.of (lent_at hL hpk0); obtain ⟨q0, hq0⟩ := hx.at (p := 3) rfl; obtain ⟨q0r, hq0r⟩ := hx.at (p := 4) rfl; have hL1 := RS_of_mat (enc := encU) (n := 1) (fun _ => rfl) (lent_at hL hq0) (lent_at hL hq0r); exact (grant_graph_do_c1_ok w0 m2 [] d_1.label.level _ _ g_0 hL1 hbk0 _ (gd_get (d := false) ha11 hG) w hc2).mono fun e w' ⟨he, hc'⟩ => ⟨he, hback [] w' hc'⟩)) ?_
      refine W.g rfl rfl rfl rfl rfl (.g rfl _) rfl (by decide) (fun hG => Yd.not rfl (.g rfl hG)) ?_
      refine W.g rfl rfl rfl rfl rfl (.g rfl _) rfl (by decide) (fun hG => Yd.mv rfl (.g rfl hG)) ?_
      refine W.g rfl rfl rfl rfl rfl (.g rfl _) rfl (by decide) (fun hG => Yd.mv rfl (.t rfl)) ?_
      refine W.g rfl rfl rfl rfl rfl (.g rfl _) rfl (by decide) (fun hG => Yd.mv rfl (.t rfl)) ?_
      refine W.g rfl rfl rfl rfl rfl (.g rfl _) rfl (by decide) (fun hG => Yd.eql rfl (.g rfl hG) (.g rfl hG)) ?_
      refine W.g rfl rfl rfl rfl rfl (.g rfl _) rfl (by decide) (fun hG => Yd.orG rfl (.g rfl hG) .c rfl rfl hG) ?_
      refine W.g rfl rfl rfl rfl rfl (.t rfl _) rfl (by decide) (fun hG => Yd.andG rfl (.g rfl hG) .c rfl rfl hG) ?_
      refine W.q rfl rfl rfl rfl (by decide) (Yd.or rfl (.t rfl) .c rfl rfl) ?_
      refine W.q rfl rfl rfl rfl (by decide) (Yd.as rfl (.t rfl)) ?_
      refine W.end ?_
      refine NX.sub (env' := [(0, _), (3, _), (5, _), (8, _), (9, _), (45, _)]) ⟨rfl, rfl, rfl, rfl, rfl, rfl, trivial⟩ ?_
      refine NX.then ?_
      refine Tr.cond (.t rfl) (fun hb => ?_) (fun hb => ?_)
      · have hr := cond_t hb hr
        refine Tr.seq ?_
        refine Tr.region_f (fun _ => false) ?_
        refine W.q rfl rfl rfl rfl (by decide) (Yd.as rfl .c) ?_
        refine W.end ?_
        refine NX.sub (env' := [(4, _)]) ⟨rfl, trivial⟩ ?_
        refine NX.drop (l' := hcells bg_0 [_] 62 :: hown 66 1 ug_0_0 _ _ :: hrows 35 1 encU _ _ :: l) (.cons _ (.cons _ (.cons_cons _ (.cons_cons _ (.cons_cons _ (.refl _)))))) ?_
        refine NX.then ?_
        refine Tr.ret' (RT.block (RT.then ?_))
        refine res1 rfl rfl ?_
        intro w hc
        cases hr
        exact ⟨_, _, rfl, husg_0_0, hc⟩
      · have hr := cond_f hb hr
        refine Tr.skip' ?_
        refine NX.block ?_
        refine NX.then ?_
        refine Tr.seq ?_
        refine Tr.seq ?_
        refine Tr.region_f (fun _ => false) ?_
        refine W.q rfl rfl rfl rfl (by decide) (Yd.fldB rfl Try.underlying46 rfl SZ3 rfl (.t rfl)) ?_
        refine W.q rfl rfl rfl rfl (by decide) (Yd.ldB (pos := 1) rfl rfl rfl ON3 (.t rfl)) ?_
        refine W.end ?_
        refine NX.sub (env' := [(0, _), (3, _), (5, _), (8, _), (9, _), (85, _)]) ⟨rfl, rfl, rfl, rfl, rfl, rfl, trivial⟩ ?_
        refine NX.then ?_
        refine Tr.block ?_
        refine Tr.seq ?_
        refine Tr.region_f (fun _ => false) ?_
        refine W.q rfl rfl rfl rfl (by decide) (Yd.eql rfl (.t rfl) .c) ?_
        refine W.q rfl rfl rfl rfl (by decide) (Yd.as rfl (.t rfl)) ?_
        refine W.end ?_
        refine NX.sub (env' := [(0, _), (3, _), (5, _), (8, _), (9, _), (85, _), (86, _)]) ⟨rfl, rfl, rfl, rfl, rfl, rfl, rfl, trivial⟩ ?_
        refine NX.then ?_
        refine Tr.cond (.t rfl) (fun hb => ?_) (fun hb => ?_)
        · have hr := cond_t hb hr
          refine Tr.seq ?_
          refine Tr.seq ?_
          obtain ⟨y12, hy13, hr⟩ := bind_some hr
          obtain ⟨y16, hy17, hr⟩ := bind_some hr
          obtain ⟨ha18, hr⟩ := guard_some hr
          obtain ⟨ha21, hr⟩ := guard_some hr
          refine Tr.region_x (fun _ => false) (fun _ => false) (Ord.of [0, 1, 2, 3, 4, 5, 6, 7, 8, 9, 10, 11, 12, 13, 14, 15, 16, 17, 18, 19, 20, 21, 22, 23]) FM (by kernel_rfl) ?_
          refine W.q rfl rfl rfl rfl (by decide) (Yd.ldB (pos := 0) rfl rfl rfl ON62 (.t rfl)) ?_
          refine W.q rfl rfl rfl rfl (by decide) (Yd.fldB rfl Try.underlying46 rfl SZ3 rfl (.t rfl)) ?_
          refine W.q rfl rfl rfl rfl (by decide) (Yd.ldB (pos := 1) rfl rfl rfl ON3 (.t rfl)) ?_
          refine W.q rfl rfl rfl rfl (by decide) (Yd.idxO (pos := 3) (xs := g_0) rfl hy13 rfl Try.underlying62 SZ66 (.t rfl) (.t rfl)) ?_
          obtain ⟨u14, hu15⟩ := us_get husg_0_0 hy13
          refine W.q rfl rfl rfl rfl (by decide) (Yd.ldU (pos := 3) rfl hu15 rfl ON66 (.t rfl)) ?_
          refine W.q rfl rfl rfl rfl (by decide) (Yd.fldB rfl Try.underlying46 rfl SZ3 rfl (.t rfl)) ?_
          refine W.q rfl rfl rfl rfl (by decide) (Yd.ldB (pos := 1) rfl rfl rfl ON3 (.t rfl)) ?_
          refine W.q rfl rfl rfl rfl (by decide) (Yd.idxM (pos := 4) rfl hu15 hy13 hy17 rfl Try.underlying66 SZ35 (.t rfl) (.t rfl)) ?_
          refine W.q rfl rfl rfl rfl (by decide) (Yd.ldM (enc := encU) (n := 1) (pos := 4) (fun _ => rfl) rfl hu15 hy13 hy17 rfl rfl ON35 (.t rfl)) ?_
          refine W.q rfl rfl rfl rfl (by decide) (Yd.andU (a := y16) (b := 1#32) rfl (.t rfl) .c) ?_
          refine W.q rfl rfl rfl rfl (by decide) (Yd.eqlU (a := (y16 &&& 1#32)) (b := 0#32) rfl (.t rfl) .c) ?_
          refine W.q rfl rfl rfl rfl (by decide) (Yd.mv rfl (.t rfl)) ?_
          refine W.g rfl rfl rfl rfl rfl (.t rfl _) rfl (by decide) (fun hG => Yd.mv rfl (.t rfl)) ?_
          refine W.g rfl rfl rfl rfl rfl (.t rfl _) rfl (by decide) (fun hG => Yd.ldB (pos := 0) rfl rfl rfl ON62 (.t rfl)) ?_
          refine W.g rfl rfl rfl rfl rfl (.t rfl _) rfl (by decide) (fun hG => Yd.fldB rfl Try.underlying46 rfl SZ3 rfl (.t rfl)) ?_
          refine W.g rfl rfl rfl rfl rfl (.t rfl _) rfl (by decide) (fun hG => Yd.ldB (pos := 1) rfl rfl rfl ON3 (.g rfl hG)) ?_
          refine W.g rfl rfl rfl rfl rfl (.t rfl _) rfl (by decide) (fun hG => Yd.idxO (pos := 3) (xs := g_0) rfl (gd_get (d := []) ha18 hG) rfl Try.underlying62 SZ66 (.g rfl hG) (.g rfl hG)) ?_
          obtain ⟨u19, hu20⟩ := us_getD husg_0_0 (i := d_1.to)
          refine W.g rfl rfl rfl rfl rfl (.t rfl _) rfl (by decide) (fun hG => Yd.ldU (pos := 3) rfl (hu20 _ (gd_get (d := []) ha18 hG)) rfl ON66 (.g rfl hG)) ?_
          refine W.g rfl rfl rfl rfl rfl (.t rfl _) rfl (by decide) (fun hG => Yd.mv rfl (.t rfl)) ?_
          refine W.g rfl rfl rfl rfl rfl (.t rfl _) rfl (by decide) (fun hG => Yd.idxM (pos := 4) rfl (hu20 _ (gd_get (d := []) ha18 hG)) (gd_get (d := []) ha18 hG) (gd_get (d := (0#32)) ha21 hG) rfl Try.underlying66 SZ35 (.g rfl hG) (.g rfl hG)) ?_
          refine W.g rfl rfl rfl rfl rfl (.t rfl _) rfl (by decide) (fun hG => Yd.ldM (enc := encU) (n := 1) (pos := 4) (fun _ => rfl) rfl (hu20 _ (gd_get (d := []) ha18 hG)) (gd_get (d := []) ha18 hG) (gd_get (d := (0#32)) ha21 hG) rfl rfl ON35 (.g rfl hG)) ?_
          refine W.g rfl rfl rfl rfl rfl (.t rfl _) rfl (by decide) (fun hG => Yd.andnU (a := d_1.label.parts) (b := ((geti (((geti g_0 d_1.to).getD [])) d_1.label.level).getD (0#32))) rfl (.g rfl hG) (.g rfl hG)) ?_
          refine W.g rfl rfl rfl rfl rfl (.t rfl _) rfl (by decide) (fun hG => Yd.neqU (a := (d_1.label.parts &&& ~~~((geti (((geti g_0 d_1.to).getD [])) d_1.label.level).getD (0#32)))) (b := 0#32) rfl (.g rfl hG) .c) ?_
          refine W.q rfl rfl rfl rfl (by decide) (Yd.or rfl (.t rfl) .c rfl rfl) ?_
          refine W.end ?_
          refine NX.sub (env' := [(3, _), (5, _), (8, _), (9, _), (111, _)]) ⟨rfl, rfl, rfl, rfl, rfl, trivial⟩ ?_
          refine NX.then ?_
          refine Tr.cond (.t rfl) (fun hb => ?_) (fun hb => ?_)
          · have hr := cond_t hb hr
            refine Tr.seq ?_
            refine Tr.region_f (fun _ => false) ?_
            refine W.q rfl rfl rfl rfl (by decide) (Yd.as rfl .c) ?_
            refine W.end ?_
            refine NX.sub (env' := [(4, _)]) ⟨rfl, trivial⟩ ?_
            refine NX.drop (l' := hcells bg_0 [_] 62 :: hown 66 1 ug_0_0 _ _ :: hrows 35 1 encU _ _ :: l) (.cons _ (.cons _ (.cons_cons _ (.cons_cons _ (.cons_cons _ (.refl _)))))) ?_
            refine NX.then ?_
            refine Tr.ret' (RT.then (RT.block (RT.then ?_)))
            refine res1 rfl rfl ?_
            intro w hc
            cases hr
            exact ⟨_, _, rfl, husg_0_0, hc⟩
          · have hr := cond_f hb hr
            refine Tr.skip' ?_
            refine NX.then ?_
            obtain ⟨y22, hy23, hr⟩ := bind_some hr
            obtain ⟨y26, hy27, hr⟩ := bind_some hr
            refine Tr.region_f (fun i => Nat.beq i 11) ?_
            refine W.q rfl rfl rfl rfl (by decide) (Yd.ldB (pos := 0) rfl rfl rfl ON62 (.t rfl)) ?_
            refine W.q rfl rfl rfl rfl (by decide) (Yd.fldB rfl Try.underlying46 rfl SZ3 rfl (.t rfl)) ?_
            refine W.q rfl rfl rfl rfl (by decide) (Yd.ldB (pos := 1) rfl rfl rfl ON3 (.t rfl)) ?_
            refine W.q rfl rfl rfl rfl (by decide) (Yd.idxO (pos := 3) (xs := g_0) rfl hy23 rfl Try.underlying62 SZ66 (.t rfl) (.t rfl)) ?_
            obtain ⟨u24, hu25⟩ := us_get husg_0_0 hy23
            refine W.q rfl rfl rfl rfl (by decide) (Yd.ldU (pos := 3) rfl hu25 rfl ON66 (.t rfl)) ?_
            refine W.q rfl rfl rfl rfl (by decide) (Yd.mv rfl (.t rfl)) ?_
            refine W.q rfl rfl rfl rfl (by decide) (Yd.idxM (pos := 4) rfl hu25 hy23 hy27 rfl Try.underlying66 SZ35 (.t rfl) (.t rfl)) ?_
            refine W.q rfl rfl rfl rfl (by decide) (Yd.ldM (enc := encU) (n := 1) (pos := 4) (fun _ => rfl) rfl hu25 hy23 hy27 rfl rfl ON35 (.t rfl)) ?_
            refine W.q rfl rfl rfl rfl (by decide) (Yd.mv rfl (.t rfl)) ?_
            refine W.q rfl rfl rfl rfl (by decide) (Yd.orU (a := y26) (b := d_1.label.parts) rfl (.t rfl) (.t rfl)) ?_
            refine W.q rfl rfl rfl rfl (by decide) (Yd.idxM (pos := 4) rfl hu25 hy23 hy27 rfl Try.underlying66 SZ35 (.t rfl) (.t rfl)) ?_
            refine W.s rfl rfl rfl rfl (Ef.stM (enc := encU) (n := 1) (pos0 := 3) (pos := 4) (y := (y26 ||| d_1.label.parts)) (us' := [_]) (fun _ => rfl) rfl rfl hu25 hy23 hy27 rfl (.t rfl) (.t rfl) SZ35 rfl rfl rfl (by decide)) ?_
            rintro _ _ ⟨rfl, rfl⟩
            refine ⟨.inl rfl, ?_⟩
            refine W.cast (m' := m) (l' := hcells b3 [_] 62 :: hcells b1 [_, _, _, _, _, _] 46 :: hcells bg_0 [_] 62 :: hown 66 1 ug_0_0 _ _ :: hrows 35 1 encU _ _ :: l) rfl rfl ?_
            refine W.end ?_
            refine NX.sub (env' := []) trivial ?_
            refine NX.drop (l' := hcells bg_0 [_] 62 :: hown 66 1 ug_0_0 _ _ :: hrows 35 1 encU _ _ :: l) (.cons _ (.cons _ (.cons_cons _ (.cons_cons _ (.cons_cons _ (.refl _)))))) ?_
            refine NX.block ?_
            refine NX.then ?_
            refine Tr.seq ?_
            refine Tr.region_f (fun _ => false) ?_
            refine W.q rfl rfl rfl rfl (by decide) (Yd.as rfl .c) ?_
            refine W.end ?_
            refine NX.sub (env' := [(4, _)]) ⟨rfl, trivial⟩ ?_
            refine NX.then ?_
            refine Tr.ret' ?_
            refine res1 rfl rfl ?_
            intro w hc
            cases hr
            exact ⟨_, _, rfl, (setM husg_0_0), hc⟩
        · have hr := cond_f hb hr
          refine Tr.seq ?_
          refine Tr.region_f (fun _ => false) ?_
          refine W.q rfl rfl rfl rfl (by decide) (Yd.eql rfl (.t rfl) .c) ?_
          refine W.q rfl rfl rfl rfl (by decide) (Yd.as rfl (.t rfl)) ?_
          refine W.end ?_
          refine NX.sub (env' := [(0, _), (3, _), (5, _), (8, _), (9, _), (85, _), (123, _)]) ⟨rfl, rfl, rfl, rfl, rfl, rfl, rfl, trivial⟩ ?_
          refine NX.then ?_
          refine Tr.cond (.t rfl) (fun hb => ?_) (fun hb => ?_)
          · have hr := cond_t hb hr
            refine Tr.seq ?_
            refine Tr.seq ?_
            obtain ⟨y28, hy29, hr⟩ := bind_some hr
            obtain ⟨y32, hy33, hr⟩ := bind_some hr
            obtain ⟨ha36, hr⟩ := guard_some hr
            refine Tr.region_x (fun _ => false) (fun _ => false) (Ord.of [0, 1, 2, 3, 4, 5, 6, 7, 8, 9, 10, 11, 12, 13, 14, 15, 16, 17, 18, 19, 20, 21, 22, 23]) FM (by kernel_rfl) ?_
            refine W.q rfl rfl rfl rfl (by decide) (Yd.ldB (pos := 0) rfl rfl rfl ON62 (.t rfl)) ?_
            refine W.q rfl rfl rfl rfl (by decide) (Yd.fldB rfl Try.underlying46 rfl SZ3 rfl (.t rfl)) ?_
            refine W.q rfl rfl rfl rfl (by decide) (Yd.ldB (pos := 1) rfl rfl rfl ON3 (.t rfl)) ?_
            refine W.q rfl rfl rfl rfl (by decide) (Yd.idxO (pos := 3) (xs := g_0) rfl hy29 rfl Try.underlying62 SZ66 (.t rfl) (.t rfl)) ?_
            obtain ⟨u30, hu31⟩ := us_get husg_0_0 hy29
            refine W.q rfl rfl rfl rfl (by decide) (Yd.ldU (pos := 3) rfl hu31 rfl ON66 (.t rfl)) ?_
            refine W.q rfl rfl rfl rfl (by decide) (Yd.fldB rfl Try.underlying46 rfl SZ3 rfl (.t rfl)) ?_
            refine W.q rfl rfl rfl rfl (by decide) (Yd.ldB (pos := 1) rfl rfl rfl ON3 (.t rfl)) ?_
            refine W.q rfl rfl rfl rfl (by decide) (Yd.idxM (pos := 4) rfl hu31 hy29 hy33 rfl Try.underlying66 SZ35 (.t rfl) (.t rfl)) ?_
            refine W.q rfl rfl rfl rfl (by decide) (Yd.ldM (enc := encU) (n := 1) (pos := 4) (fun _ => rfl) rfl hu31 hy29 hy33 rfl rfl ON35 (.t rfl)) ?_
            refine W.q rfl rfl rfl rfl (by decide) (Yd.andU (a := y32) (b := 2#32) rfl (.t rfl) .c) ?_
            refine W.q rfl rfl rfl rfl (by decide) (Yd.eqlU (a := (y32 &&& 2#32)) (b := 0#32) rfl (.t rfl) .c) ?_
            refine W.q rfl rfl rfl rfl (by decide) (Yd.mv rfl (.t rfl)) ?_
            refine W.g rfl rfl rfl rfl rfl (.t rfl _) rfl (by decide) (fun hG => Yd.mv rfl (.t rfl)) ?_
            refine W.g rfl rfl rfl rfl rfl (.t rfl _) rfl (by decide) (fun hG => Yd.ldB (pos := 0) rfl rfl rfl ON62 (.t rfl)) ?_
            refine W.g rfl rfl rfl rfl rfl (.t rfl _) rfl (by decide) (fun hG => Yd.fldB rfl Try.underlying46 rfl SZ3 rfl (.t rfl)) ?_
            refine W.g rfl rfl rfl rfl rfl (.t rfl _) rfl (by decide) (fun hG => Yd.ldB (pos := 1) rfl rfl rfl ON3 (.g rfl hG)) ?_
            refine W.g rfl rfl rfl rfl rfl (.t rfl _) rfl (by decide) (fun hG => Yd.idxO (pos := 3) (xs := g_0) rfl hy29 rfl Try.underlying62 SZ66 (.g rfl hG) (.g rfl hG)) ?_
            obtain ⟨u34, hu35⟩ := us_getD husg_0_0 (i := d_1.by_)
            refine W.g rfl rfl rfl rfl rfl (.t rfl _) rfl (by decide) (fun hG => Yd.ldU (pos := 3) rfl (hu35 _ hy29) rfl ON66 (.g rfl hG)) ?_
            refine W.g rfl rfl rfl rfl rfl (.t rfl _) rfl (by decide) (fun hG => Yd.mv rfl (.t rfl)) ?_
            refine W.g rfl rfl rfl rfl rfl (.t rfl _) rfl (by decide) (fun hG => Yd.idxM (pos := 4) rfl (hu35 _ hy29) hy29 (gd_get (d := (0#32)) ha36 hG) rfl Try.underlying66 SZ35 (.g rfl hG) (.g rfl hG)) ?_
            refine W.g rfl rfl rfl rfl rfl (.t rfl _) rfl (by decide) (fun hG => Yd.ldM (enc := encU) (n := 1) (pos := 4) (fun _ => rfl) rfl (hu35 _ hy29) hy29 (gd_get (d := (0#32)) ha36 hG) rfl rfl ON35 (.g rfl hG)) ?_
            refine W.g rfl rfl rfl rfl rfl (.t rfl _) rfl (by decide) (fun hG => Yd.andnU (a := d_1.label.parts) (b := ((geti y28 d_1.label.level).getD (0#32))) rfl (.g rfl hG) (.g rfl hG)) ?_
            refine W.g rfl rfl rfl rfl rfl (.t rfl _) rfl (by decide) (fun hG => Yd.neqU (a := (d_1.label.parts &&& ~~~((geti y28 d_1.label.level).getD (0#32)))) (b := 0#32) rfl (.g rfl hG) .c) ?_
            refine W.q rfl rfl rfl rfl (by decide) (Yd.or rfl (.t rfl) .c rfl rfl) ?_
            refine W.end ?_
            refine NX.sub (env' := [(3, _), (5, _), (8, _), (9, _), (148, _)]) ⟨rfl, rfl, rfl, rfl, rfl, trivial⟩ ?_
            refine NX.then ?_
            refine Tr.cond (.t rfl) (fun hb => ?_) (fun hb => ?_)
            · have hr := cond_t hb hr
              refine Tr.seq ?_
              refine Tr.region_f (fun _ => false) ?_
              refine W.q rfl rfl rfl rfl (by decide) (Yd.as rfl .c) ?_
              refine W.end ?_
              refine NX.sub (env' := [(4, _)]) ⟨rfl, trivial⟩ ?_
              refine NX.drop (l' := hcells bg_0 [_] 62 :: hown 66 1 ug_0_0 _ _ :: hrows 35 1 encU _ _ :: l) (.cons _ (.cons _ (.cons_cons _ (.cons_cons _ (.cons_cons _ (.refl _)))))) ?_
              refine NX.then ?_
              refine Tr.ret' (RT.then (RT.block (RT.then ?_)))
              refine res1 rfl rfl ?_
              intro w hc
              cases hr
              exact ⟨_, _, rfl, husg_0_0, hc⟩
            · have hr := cond_f hb hr
              refine Tr.skip' ?_
              refine NX.then ?_
              obtain ⟨y37, hy38, hr⟩ := bind_some hr
              obtain ⟨y41, hy42, hr⟩ := bind_some hr
              refine Tr.region_f (fun i => Nat.beq i 11) ?_
              refine W.q rfl rfl rfl rfl (by decide) (Yd.ldB (pos := 0) rfl rfl rfl ON62 (.t rfl)) ?_
              refine W.q rfl rfl rfl rfl (by decide) (Yd.fldB rfl Try.underlying46 rfl SZ3 rfl (.t rfl)) ?_
              refine W.q rfl rfl rfl rfl (by decide) (Yd.ldB (pos := 1) rfl rfl rfl ON3 (.t rfl)) ?_
              refine W.q rfl rfl rfl rfl (by decide) (Yd.idxO (pos := 3) (xs := g_0) rfl hy38 rfl Try.underlying62 SZ66 (.t rfl) (.t rfl)) ?_
              obtain ⟨u39, hu40⟩ := us_get husg_0_0 hy38
              refine W.q rfl rfl rfl rfl (by decide) (Yd.ldU (pos := 3) rfl hu40 rfl ON66 (.t rfl)) ?_
              refine W.q rfl rfl rfl rfl (by decide) (Yd.mv rfl (.t rfl)) ?_
              refine W.q rfl rfl rfl rfl (by decide) (Yd.idxM (pos := 4) rfl hu40 hy38 hy42 rfl Try.underlying66 SZ35 (.t rfl) (.t rfl)) ?_
              refine W.q rfl rfl rfl rfl (by decide) (Yd.ldM (enc := encU) (n := 1) (pos := 4) (fun _ => rfl) rfl hu40 hy38 hy42 rfl rfl ON35 (.t rfl)) ?_
              refine W.q rfl rfl rfl rfl (by decide) (Yd.mv rfl (.t rfl)) ?_
              refine W.q rfl rfl rfl rfl (by decide) (Yd.orU (a := y41) (b := d_1.label.parts) rfl (.t rfl) (.t rfl)) ?_
              refine W.q rfl rfl rfl rfl (by decide) (Yd.idxM (pos := 4) rfl hu40 hy38 hy42 rfl Try.underlying66 SZ35 (.t rfl) (.t rfl)) ?_
              refine W.s rfl rfl rfl rfl (Ef.stM (enc := encU) (n := 1) (pos0 := 3) (pos := 4) (y := (y41 ||| d_1.label.parts)) (us' := [_]) (fun _ => rfl) rfl rfl hu40 hy38 hy42 rfl (.t rfl) (.t rfl) SZ35 rfl rfl rfl (by decide)) ?_
              rintro _ _ ⟨rfl, rfl⟩
              refine ⟨.inl rfl, ?_⟩
              refine W.cast (m' := m) (l' := hcells b3 [_] 62 :: hcells b1 [_, _, _, _, _, _] 46 :: hcells bg_0 [_] 62 :: hown 66 1 ug_0_0 _ _ :: hrows 35 1 encU _ _ :: l) rfl rfl ?_
              refine W.end ?_
              refine NX.sub (env' := []) trivial ?_
              refine NX.drop (l' := hcells bg_0 [_] 62 :: hown 66 1 ug_0_0 _ _ :: hrows 35 1 encU _ _ :: l) (.cons _ (.cons _ (.cons_cons _ (.cons_cons _ (.cons_cons _ (.refl _)))))) ?_
              refine NX.block ?_
              refine NX.then ?_
              refine Tr.seq ?_
              refine Tr.region_f (fun _ => false) ?_
              refine W.q rfl rfl rfl rfl (by decide) (Yd.as rfl .c) ?_
              refine W.end ?_
              refine NX.sub (env' := [(4, _)]) ⟨rfl, trivial⟩ ?_
              refine NX.then ?_
              refine Tr.ret' ?_
              refine res1 rfl rfl ?_
              intro w hc
              cases hr
              exact ⟨_, _, rfl, (setM husg_0_0), hc⟩
          · have hr := cond_f hb hr
            refine Tr.seq ?_
            refine Tr.region_f (fun _ => false) ?_
            refine W.q rfl rfl rfl rfl (by decide) (Yd.eql rfl (.t rfl) .c) ?_
            refine W.q rfl rfl rfl rfl (by decide) (Yd.as rfl (.t rfl)) ?_
            refine W.end ?_
            refine NX.sub (env' := [(0, _), (3, _), (5, _), (9, _), (85, _), (160, _)]) ⟨rfl, rfl, rfl, rfl, rfl, rfl, trivial⟩ ?_
            refine NX.then ?_
            refine Tr.cond (.t rfl) (fun hb => ?_) (fun hb => ?_)
            · have hr := cond_t hb hr
              refine Tr.seq ?_
              refine Tr.seq ?_
              refine Tr.region_f (fun _ => false) ?_
              refine W.q rfl rfl rfl rfl (by decide) (Yd.ldB (pos := 0) rfl rfl rfl ON62 (.t rfl)) ?_
              refine W.q rfl rfl rfl rfl (by decide) (Yd.lenO (p := 3) rfl rfl Try.underlying62 (.t rfl)) ?_
              refine W.q rfl rfl rfl rfl (by decide) (Yd.eql rfl (.t rfl) .c) ?_
              refine W.end ?_
              refine NX.sub (env' := [(0, _), (3, _), (5, _), (164, _)]) ⟨rfl, rfl, rfl, rfl, trivial⟩ ?_
              refine NX.then ?_
              refine Tr.cond (.t rfl) (fun hb => ?_) (fun hb => ?_)
              · have hr := cond_t hb hr
                refine Tr.seq ?_
                refine Tr.region_f (fun _ => false) ?_
                refine W.q rfl rfl rfl rfl (by decide) (Yd.as rfl .c) ?_
                refine W.end ?_
                refine NX.sub (env' := [(4, _)]) ⟨rfl, trivial⟩ ?_
                refine NX.drop (l' := hcells bg_0 [_] 62 :: hown 66 1 ug_0_0 _ _ :: hrows 35 1 encU _ _ :: l) (.cons _ (.cons _ (.cons_cons _ (.cons_cons _ (.cons_cons _ (.refl _)))))) ?_
                refine NX.then ?_
                refine Tr.ret' (RT.then (RT.block (RT.then ?_)))
                refine res1 rfl rfl ?_
                intro w hc
                cases hr
                exact ⟨_, _, rfl, husg_0_0, hc⟩
              · have hr := cond_f hb hr
                refine Tr.skip' ?_
                refine NX.then ?_
                refine Tr.seq ?_
                obtain ⟨y43, hy44, hr⟩ := bind_some hr
                obtain ⟨y47, hy48, hr⟩ := bind_some hr
                refine Tr.region_x (fun i => Nat.beq i 8) (fun i => Nat.beq i 8) (Ord.of [0, 1, 2, 3, 4, 5, 6, 7, 8]) FM (by kernel_rfl) ?_
                refine W.q rfl rfl rfl rfl (by decide) (Yd.ldB (pos := 0) rfl rfl rfl ON62 (.t rfl)) ?_
                refine W.q rfl rfl rfl rfl (by decide) (Yd.fldB rfl Try.underlying46 rfl SZ3 rfl (.t rfl)) ?_
                refine W.q rfl rfl rfl rfl (by decide) (Yd.ldB (pos := 1) rfl rfl rfl ON3 (.t rfl)) ?_
                refine W.q rfl rfl rfl rfl (by decide) (Yd.idxO (pos := 3) (xs := g_0) rfl hy44 rfl Try.underlying62 SZ66 (.t rfl) (.t rfl)) ?_
                obtain ⟨u45, hu46⟩ := us_get husg_0_0 hy44
                refine W.q rfl rfl rfl rfl (by decide) (Yd.ldU (pos := 3) rfl hu46 rfl ON66 (.t rfl)) ?_
                refine W.q rfl rfl rfl rfl (by decide) (Yd.ldB (pos := 0) rfl rfl rfl ON62 (.t rfl)) ?_
                refine W.q rfl rfl rfl rfl (by decide) (Yd.lenO (p := 3) rfl rfl Try.underlying62 (.t rfl)) ?_
                refine W.q rfl rfl rfl rfl (by decide) (Yd.idxM (pos := 4) rfl hu46 hy44 hy48 rfl Try.underlying66 SZ35 (.t rfl) (.t rfl)) ?_
                refine W.s rfl rfl rfl rfl (Ef.stM (enc := encU) (n := 1) (pos0 := 3) (pos := 4) (y := 3#32) (us' := [_]) (fun _ => rfl) rfl rfl hu46 hy44 hy48 rfl (.t rfl) .c SZ35 rfl rfl rfl (by decide)) ?_
                rintro _ _ ⟨rfl, rfl⟩
                refine ⟨.inl rfl, ?_⟩
                refine W.cast (m' := m) (l' := hcells b3 [_] 62 :: hcells b1 [_, _, _, _, _, _] 46 :: hcells bg_0 [_] 62 :: hown 66 1 ug_0_0 _ _ :: hrows 35 1 encU _ _ :: l) rfl rfl ?_
                refine W.end ?_
                refine NX.sub (env' := [(0, _), (5, _)]) ⟨rfl, rfl, trivial⟩ ?_
                refine NX.drop (l' := hcells b3 [_] 62 :: hcells bg_0 [_] 62 :: hown 66 1 ug_0_0 _ _ :: hrows 35 1 encU _ _ :: l) (.cons_cons _ (.cons _ (.cons_cons _ (.cons_cons _ (.cons_cons _ (.refl _)))))) ?_
                refine NX.then ?_
                obtain ⟨hq49, hr⟩ := guard_some hr; replace hq49 := of_decide_eq_true hq49
                obtain ⟨hq55, hr⟩ := guard_some hr; replace hq55 := of_decide_eq_true hq55
                refine Tr.region_x (fun i => Nat.beq i 2 || Nat.beq i 3 || Nat.beq i 4 || Nat.beq i 6) (fun i => Nat.beq i 0 || Nat.beq i 4 || Nat.beq i 6) (Ord.of [0, 1, 2, 3, 4, 5, 6]) FM (by kernel_rfl) ?_
                refine W.p rfl rfl rfl rfl (by decide) (fun _ => Yd.mv rfl (.t rfl)) ?_
                refine W.q rfl rfl rfl rfl (by decide) (Yd.ldB (pos := 0) rfl rfl rfl ON62 (.t rfl)) ?_
                refine W.e rfl rfl rfl rfl (by decide) (Ef.mkT (enc := encU) (0#32) IF35 rfl Try.underlying66 rfl rfl (by decide) .c .c (by omega) (by omega) (by omega)) ?_
                rintro v50 _ rfl
                refine ⟨.inr ⟨.refl _, [_], rfl⟩, ?_⟩
                refine W.cast (m' := m) (l' := hownT 35 1 encU v50 _ :: hcells b3 [_] 62 :: hcells bg_0 [_] 62 :: hown 66 1 ug_0_0 _ _ :: hrows 35 1 encU _ _ :: l) rfl rfl ?_
                refine W.e rfl rfl rfl rfl (by decide) (Ef.bsO (pos := 0) rfl IF66 rfl Try.underlying62 (.cons (.t rfl) .nil)) ?_
                rintro v52 _ rfl
                refine ⟨.inr ⟨.refl _, [_], rfl⟩, ?_⟩
                refine W.cast (m' := m) (l' := hown 66 1 v52 _ _ :: hownT 35 1 encU v50 _ :: hcells b3 [_] 62 :: hcells bg_0 [_] 62 :: hown 66 1 ug_0_0 _ _ :: hrows 35 1 encU _ _ :: l) rfl rfl ?_
                refine W.e rfl rfl rfl rfl (by decide) (Ef.apO (pos := 4) (pos2 := 0) (pos3 := 1) (xss := (g_0.set d_1.by_.toNat (y43.set ((g_0.length : Int)).toNat (3#32)))) (ys := (List.replicate ((14 : Int)).toNat (0#32))) IF66 rfl rfl rfl rfl Try.underlying62 rfl (.t rfl) (.t rfl) (by omega) (by omega)) ?_
                rintro v54 _ rfl
                refine ⟨.inl rfl, ?_⟩
                refine W.cast (m' := m) (l' := hown 66 1 v52 _ _ :: hownT 35 1 encU v50 _ :: hcells b3 [_] 62 :: hcells bg_0 [_] 62 :: hown 66 1 v54 _ _ :: hrows 35 1 encU _ _ :: l) rfl rfl ?_
                refine W.q rfl rfl rfl rfl (by decide) (Yd.nilc rfl (.t rfl)) ?_
                refine W.s rfl rfl rfl rfl (Ef.stBo (pos := 3) (pos2 := 4) (cs' := [_]) rfl rfl rfl (.t rfl) (.t rfl) SZ62 (Nat.le_of_ble_eq_true rfl) rfl) ?_
                rintro _ _ ⟨rfl, rfl⟩
                refine ⟨.inl rfl, ?_⟩
                refine W.cast (m' := m) (l' := hown 66 1 v52 _ _ :: hownT 35 1 encU v50 _ :: hcells b3 [_] 62 :: hcells bg_0 [_] 62 :: hown 66 1 v54 _ _ :: hrows 35 1 encU _ _ :: l) rfl rfl ?_
                refine W.end ?_
                refine NX.imp (fun w hw => cX_merge (po := 1) (pr := 4) rfl rfl hw) ?_
                refine NX.cast (m' := m) (l' := hown 66 1 v52 _ _ :: hcells b3 [_] 62 :: hcells bg_0 [_] 62 :: hown 66 1 v54 _ _ :: hrows 35 1 encU _ _ :: l) rfl rfl ?_
                refine NX.sub (env' := []) trivial ?_
                refine NX.drop (l' := hcells bg_0 [_] 62 :: hown 66 1 v54 _ _ :: hrows 35 1 encU _ _ :: l) (.cons _ (.cons _ (.cons_cons _ (.cons_cons _ (.cons_cons _ (.refl _)))))) ?_
                refine NX.block ?_
                refine NX.then ?_
                refine Tr.seq ?_
                refine Tr.region_f (fun _ => false) ?_
                refine W.q rfl rfl rfl rfl (by decide) (Yd.as rfl .c) ?_
                refine W.end ?_
                refine NX.sub (env' := [(4, _)]) ⟨rfl, trivial⟩ ?_
                refine NX.then ?_
                refine Tr.ret' ?_
                refine res1 rfl rfl ?_
                intro w hc
                cases hr
                exact ⟨_, _, rfl, (snocM (ys := (List.replicate ((14 : Int)).toNat (0#32))) (setM husg_0_0)), hc⟩
            · have hr := cond_f hb hr
              refine Tr.seq ?_
              refine Tr.region_f (fun _ => false) ?_
              refine W.q rfl rfl rfl rfl (by decide) (Yd.eql rfl (.t rfl) .c) ?_
              refine W.q rfl rfl rfl rfl (by decide) (Yd.as rfl (.t rfl)) ?_
              refine W.end ?_
              refine NX.sub (env' := [(3, _), (5, _), (9, _), (179, _)]) ⟨rfl, rfl, rfl, rfl, trivial⟩ ?_
              refine NX.then ?_
              refine Tr.cond (.t rfl) (fun hb => ?_) (fun hb => ?_)
              · have hr := cond_t hb hr
                obtain ⟨y56, hy57, hr⟩ := bind_some hr
                obtain ⟨y60, hy61, hr⟩ := bind_some hr
                refine Tr.region_x (fun i => Nat.beq i 12) (fun i => Nat.beq i 12) (Ord.of [0, 1, 2, 3, 4, 5, 6, 7, 8, 9, 10, 11, 12]) FM (by kernel_rfl) ?_
                refine W.q rfl rfl rfl rfl (by decide) (Yd.ldB (pos := 0) rfl rfl rfl ON62 (.t rfl)) ?_
                refine W.q rfl rfl rfl rfl (by decide) (Yd.fldB rfl Try.underlying46 rfl SZ3 rfl (.t rfl)) ?_
                refine W.q rfl rfl rfl rfl (by decide) (Yd.ldB (pos := 1) rfl rfl rfl ON3 (.t rfl)) ?_
                refine W.q rfl rfl rfl rfl (by decide) (Yd.idxO (pos := 3) (xs := g_0) rfl hy57 rfl Try.underlying62 SZ66 (.t rfl) (.t rfl)) ?_
                obtain ⟨u58, hu59⟩ := us_get husg_0_0 hy57
                refine W.q rfl rfl rfl rfl (by decide) (Yd.ldU (pos := 3) rfl hu59 rfl ON66 (.t rfl)) ?_
                refine W.q rfl rfl rfl rfl (by decide) (Yd.fldB rfl Try.underlying46 rfl SZ3 rfl (.t rfl)) ?_
                refine W.q rfl rfl rfl rfl (by decide) (Yd.ldB (pos := 1) rfl rfl rfl ON3 (.t rfl)) ?_
                refine W.q rfl rfl rfl rfl (by decide) (Yd.idxM (pos := 4) rfl hu59 hy57 hy61 rfl Try.underlying66 SZ35 (.t rfl) (.t rfl)) ?_
                refine W.q rfl rfl rfl rfl (by decide) (Yd.ldM (enc := encU) (n := 1) (pos := 4) (fun _ => rfl) rfl hu59 hy57 hy61 rfl rfl ON35 (.t rfl)) ?_
                refine W.q rfl rfl rfl rfl (by decide) (Yd.mv rfl (.t rfl)) ?_
                refine W.q rfl rfl rfl rfl (by decide) (Yd.andnU (a := y60) (b := d_1.label.parts) rfl (.t rfl) (.t rfl)) ?_
                refine W.q rfl rfl rfl rfl (by decide) (Yd.idxM (pos := 4) rfl hu59 hy57 hy61 rfl Try.underlying66 SZ35 (.t rfl) (.t rfl)) ?_
                refine W.s rfl rfl rfl rfl (Ef.stM (enc := encU) (n := 1) (pos0 := 3) (pos := 4) (y := (y60 &&& ~~~d_1.label.parts)) (us' := [_]) (fun _ => rfl) rfl rfl hu59 hy57 hy61 rfl (.t rfl) (.t rfl) SZ35 rfl rfl rfl (by decide)) ?_
                rintro _ _ ⟨rfl, rfl⟩
                refine ⟨.inl rfl, ?_⟩
                refine W.cast (m' := m) (l' := hcells b3 [_] 62 :: hcells b1 [_, _, _, _, _, _] 46 :: hcells bg_0 [_] 62 :: hown 66 1 ug_0_0 _ _ :: hrows 35 1 encU _ _ :: l) rfl rfl ?_
                refine W.end ?_
                refine NX.sub (env' := []) trivial ?_
                refine NX.drop (l' := hcells bg_0 [_] 62 :: hown 66 1 ug_0_0 _ _ :: hrows 35 1 encU _ _ :: l) (.cons _ (.cons _ (.cons_cons _ (.cons_cons _ (.cons_cons _ (.refl _)))))) ?_
                refine NX.block ?_
                refine NX.then ?_
                refine Tr.seq ?_
                refine Tr.region_f (fun _ => false) ?_
                refine W.q rfl rfl rfl rfl (by decide) (Yd.as rfl .c) ?_
                refine W.end ?_
                refine NX.sub (env' := [(4, _)]) ⟨rfl, trivial⟩ ?_
                refine NX.then ?_
                refine Tr.ret' ?_
                refine res1 rfl rfl ?_
                intro w hc
                cases hr
                exact ⟨_, _, rfl, (setM husg_0_0), hc⟩
              · have hr := cond_f hb hr
                refine Tr.skip' ?_
                refine NX.block ?_
                refine NX.then ?_
                refine Tr.seq ?_
                refine Tr.region_f (fun _ => false) ?_
                refine W.q rfl rfl rfl rfl (by decide) (Yd.as rfl .c) ?_
                refine W.end ?_
                refine NX.sub (env' := [(4, _)]) ⟨rfl, trivial⟩ ?_
                refine NX.drop (l' := hcells bg_0 [_] 62 :: hown 66 1 ug_0_0 _ _ :: hrows 35 1 encU _ _ :: l) (.cons _ (.cons _ (.cons_cons _ (.cons_cons _ (.cons_cons _ (.refl _)))))) ?_
                refine NX.then ?_
                refine Tr.ret' ?_
                refine res1 rfl rfl ?_
                intro w hc
                cases hr
                exact ⟨_, _, rfl, husg_0_0, hc⟩
  refine Tr.cond (.t rfl) (fun hb => ?_) (fun hb => ?_)
  · have hr := cond_t hb hr
    refine Tr.region_f (fun _ => false) ?_
    refine W.q rfl rfl rfl rfl (by decide) (Yd.fldB rfl Try.underlying46 rfl SZ3 rfl (.t rfl)) ?_
    refine W.q rfl rfl rfl rfl (by decide) (Yd.ldB (pos := 1) rfl rfl rfl ON3 (.t rfl)) ?_
    refine W.q rfl rfl rfl rfl (by decide) (Yd.as rfl (.t rfl)) ?_
    refine W.end ?_
    refine NX.sub (env' := [(0, _), (3, _), (5, _), (6, _), (7, _), (8, _), (9, _), (10, _)]) ⟨rfl, rfl, rfl, rfl, rfl, rfl, rfl, rfl, trivial⟩ ?_
    refine NX.sub (env' := [(0, _), (3, _), (5, _), (6, _), (7, _), (8, _), (9, _), (10, _)]) ⟨rfl, rfl, rfl, rfl, rfl, rfl, rfl, rfl, trivial⟩ ?_
    exact hk7 _ _ ⟨_, rfl, rfl, hr⟩
  · have hr := cond_f hb hr
    refine Tr.skip' ?_
    refine NX.sub (env' := [(0, _), (3, _), (5, _), (6, _), (7, _), (8, _), (9, _), (10, _)]) ⟨rfl, rfl, rfl, rfl, rfl, rfl, rfl, rfl, trivial⟩ ?_
    exact hk7 _ _ ⟨_, rfl, rfl, hr⟩

def grant_Play_k55 (l39 : List Int) (l41 : List (List (BitVec 32))) (l53 : List Edge) : Option (Graph × Int) :=
  some ((({ codes := l39, n := (l41.length : Int), edges := l53 } : Graph), (0 : Int)))

def grant_Play_k78 (nx64 : ((List Edge) → Option (Graph × Int))) (l76 : List Edge) : Option (Graph × Int) :=
  nx64 l76

def grant_Play_b82 (t_62 : Int) (y66 : (List (BitVec 32))) (t_81 : Int) (l74 : List Edge) (nx83 : (List Edge) → Option (Graph × Int)) : Option (Graph × Int) :=
  (geti y66 t_81).bind fun y85 =>
  (bif (y85 != 0#32) then
  bif decide (l74.length + (([({ src := t_62, to := t_81, rights := y85 } : Edge)] : List Edge)).length ≤ 5864062014805) then
  nx83 (l74 ++ ([({ src := t_62, to := t_81, rights := y85 } : Edge)] : List Edge)) else none
  else
  nx83 l74)

def grant_Play_b63 (l41 : List (List (BitVec 32))) (t_62 : Int) (l51 : List Edge) (nx64 : (List Edge) → Option (Graph × Int)) : Option (Graph × Int) :=
  (geti l41 t_62).bind fun y66 =>
  bif decide ((y66.length : Int) ≤ 9223372036854775807) then
  forK (σ := (List Edge)) (fun i s nx_ => grant_Play_b82 t_62 y66 i s nx_) (fun s => grant_Play_k78 nx64 s) ((y66.length : Int) - (0 : Int)).toNat (0 : Int) l51 else none

def grant_Play_k45 (l39 : List Int) (l41 : List (List (BitVec 32))) : Option (Graph × Int) :=
  forK (σ := (List Edge)) (fun i s nx_ => grant_Play_b63 l41 i s nx_) (fun s => grant_Play_k55 l39 l41 s) ((l41.length : Int) - (0 : Int)).toNat (0 : Int) (([] : List Edge))

def grant_Play_b93 (script_2 : List Deed) (t_92 : Int) (l33 : List Int) (l35 : List (List (BitVec 32))) (nx94 : ((List Int) × (List (List (BitVec 32)))) → Option (Graph × Int)) : Option (Graph × Int) :=
  (geti script_2 t_92).bind fun y96 =>
  (grant_graph_do l35 (({ kind := y96.kind, by_ := y96.by_, to := y96.to, label := ({ level := y96.label.level, parts := y96.label.parts } : Label), val := y96.val } : Deed))).bind fun r100 =>
  bif decide (l33.length + (([r100.1] : List Int)).length ≤ 17592186044416) then
  nx94 ((l33 ++ ([r100.1] : List Int)), r100.2) else none

def grant_Play (n_0 : Int) (edges_1 : List Edge) (script_2 : List Deed) : Option (Graph × Int) :=
  (bif (decide ((script_2.length : Int) > (30 : Int))) then
  some ((({ codes := ([] : List Int), n := (0 : Int), edges := ([] : List Edge) } : Graph), (1 : Int)))
  else
  (grant_build n_0 edges_1).bind fun r9 =>
  (bif (r9.2 != (0 : Int)) then
  some ((({ codes := ([] : List Int), n := (0 : Int), edges := ([] : List Edge) } : Graph), r9.2))
  else
  forK (σ := (List Int) × (List (List (BitVec 32)))) (fun i s nx_ => grant_Play_b93 script_2 i s.1 s.2 nx_) (fun s => grant_Play_k45 s.1 s.2) ((script_2.length : Int) - (0 : Int)).toNat (0 : Int) ((([] : List Int)), r9.1)))

set_option maxRecDepth 100000 in
set_option maxHeartbeats 4000000 in
theorem grant_Play_ok (w0 : World) (m : Snap) (l : List HI) (n_0 : Int) (uedges_1 : Value) (edges_1 : List Edge) (hedges_1 : RS rEdge m uedges_1 edges_1) (uscript_2 : Value) (script_2 : List Deed) (hscript_2 : RS rDeed m uscript_2 script_2) (r : Graph × Int) (hr : grant_Play n_0 edges_1 script_2 = some r) (w : World) (hc : cX w0 ⟨m, l⟩ w) :
    Calls Try.prog 7 [.int .i64 n_0, uedges_1, uscript_2].toArray w fun e w' => ∃ z0 : Value, ∃ z1 : Value, ∃ m1 : Snap, e = .returned (.tuple #[.agg #[z0, .int .i64 r.1.n, z1], .int .i64 r.2]) ∧ Sle m m1 ∧ RS rI m1 z0 r.1.codes ∧ RS rEdge m1 z1 r.1.edges ∧ cX w0 ⟨m1, l⟩ w' := by
  unfold grant_Play at hr
  refine calls_of_Tr (N := 76) Try.func7 rfl hc rfl (Nat.le_of_ble_eq_true rfl) ?_
  refine Tr.seq ?_
  refine Tr.addnil 27 1 ?_
  refine Tr.cast (m' := m) (l' := hownT 27 1 encI (.slice none 0 0) (([] : List Int)) :: l) rfl rfl ?_
  refine Tr.addnil 68 3 ?_
  refine Tr.cast (m' := m) (l' := hownT 68 3 Edge.enc (.slice none 0 0) (([] : List Edge)) :: hownT 27 1 encI (.slice none 0 0) (([] : List Int)) :: l) rfl rfl ?_
  refine Tr.region_f (fun i => Nat.beq i 0) ?_
  refine W.e rfl rfl rfl rfl (by decide) (Ef.al rfl ZR26 rfl) ?_
  rintro _ _ ⟨b3, rfl, rfl⟩
  refine ⟨.inl rfl, ?_⟩
  refine W.cast (m' := m) (l' := hcells b3 [_, _, _] 26 :: hownT 68 3 Edge.enc (.slice none 0 0) (([] : List Edge)) :: hownT 27 1 encI (.slice none 0 0) (([] : List Int)) :: l) rfl rfl ?_
  refine W.q rfl rfl rfl rfl (by decide) (Yd.as rfl .c) ?_
  refine W.end ?_
  refine NX.sub (env' := [(0, _), (1, _), (2, _), (6, _)]) ⟨rfl, rfl, rfl, rfl, trivial⟩ ?_
  refine NX.then ?_
  refine Tr.seq ?_
  refine Tr.seq ?_
  refine Tr.region_f (fun _ => false) ?_
  refine W.q rfl rfl rfl rfl (by decide) (Yd.mv rfl (.t rfl)) ?_
  refine W.q rfl rfl rfl rfl (by decide) (Yd.lenR hscript_2 rfl Try.underlying23 (.t rfl)) ?_
  refine W.q rfl rfl rfl rfl (by decide) (Yd.gtr rfl (.t rfl) .c) ?_
  refine W.end ?_
  refine NX.sub (env' := [(0, _), (1, _), (2, _), (6, _), (19, _)]) ⟨rfl, rfl, rfl, rfl, rfl, trivial⟩ ?_
  refine NX.then ?_
  refine Tr.cond (.t rfl) (fun hb => ?_) (fun hb => ?_)
  · have hr := cond_t hb hr
    refine Tr.seq ?_
    refine Tr.region_f (fun i => Nat.beq i 1) ?_
    refine W.q rfl rfl rfl rfl (by decide) (Yd.bld (cells := [.slice none 0 0, .int .i64 ((0 : Int)), .slice none 0 0]) rfl ZI26 PL26 .nil rfl) ?_
    refine W.s rfl rfl rfl rfl (Ef.stB (pos := 0) (us := [_, _, _]) (cs' := [_, _, _]) rfl rfl (.t rfl) (.t rfl) SZ26 rfl rfl rfl (Nat.le_of_ble_eq_true rfl) rfl) ?_
    rintro _ _ ⟨rfl, rfl⟩
    refine ⟨.inl rfl, ?_⟩
    refine W.cast (m' := m) (l' := hcells b3 [_, _, _] 26 :: hownT 68 3 Edge.enc (.slice none 0 0) (([] : List Edge)) :: hownT 27 1 encI (.slice none 0 0) (([] : List Int)) :: l) rfl rfl ?_
    refine W.q rfl rfl rfl rfl (by decide) (Yd.as rfl .c) ?_
    refine W.end ?_
    refine NX.sub (env' := [(6, _), (7, _)]) ⟨rfl, rfl, trivial⟩ ?_
    refine NX.then ?_
    refine Tr.ret' (RT.then ?_)
    refine resV2 rfl (Rv.cs (pos := 0) rfl rfl rfl ON26 US26 SZ26) (Rv.t rfl) ?_
    intro w hc
    cases hr
    obtain ⟨m5, hsm5, hu6, hc⟩ := cX_freeze (enc := encI) (n := 1) (p := 2) (fun _ => rfl) hc rfl
    have hedges_1 := hedges_1.mono hsm5
    have hscript_2 := hscript_2.mono hsm5
    obtain ⟨m7, hsm7, hu8, hc⟩ := cX_freeze (enc := Edge.enc) (n := 3) (p := 1) (fun _ => rfl) hc rfl
    have hedges_1 := hedges_1.mono hsm7
    have hscript_2 := hscript_2.mono hsm7
    have hu6 := hu6.mono hsm7
    exact ⟨_, _, _, rfl, (hsm5.trans hsm7), hu6, hu8, (cX_sub (.cons _ (.refl _)) hc)⟩
  · have hr := cond_f hb hr
    refine Tr.skip' ?_
    refine NX.then ?_
    refine Tr.seq ?_
    obtain ⟨r9, hr10, hr⟩ := bind_some hr
    refine Tr.region_f (fun i => Nat.beq i 2 || Nat.beq i 6 || Nat.beq i 7) ?_
    refine W.q rfl rfl rfl rfl (by decide) (Yd.mv rfl (.t rfl)) ?_
    refine W.q rfl rfl rfl rfl (by decide) (Yd.mv rfl (.t rfl)) ?_
    refine W.e rfl rfl rfl rfl (by decide) (Ef.call (R := fun z x' => ∃ v11 : Value, ∃ us12 : List Value, z = .tuple #[v11, .int .i64 r9.2] ∧ x' = ⟨m, hown 66 1 v11 r9.1.length us12 :: hrows 35 1 encU us12 r9.1 :: hcells b3 [(.slice none 0 0), .int .i64 ((0 : Int)), (.slice none 0 0)] 26 :: hownT 68 3 Edge.enc (.slice none 0 0) (([] : List Edge)) :: hownT 27 1 encI (.slice none 0 0) (([] : List Int)) :: l⟩ ∧ us12.length = r9.1.length) rfl Try.func22 rfl rfl (.cons (.t rfl) (.cons (.t rfl) .nil)) (fun w hw => (grant_build_ok w0 _ _ n_0 _ _ hedges_1 _ hr10 w hw).mono fun e w' ⟨v11, us12, he, hw13, hc'⟩ => ⟨_, _, he, ⟨v11, us12, rfl, rfl, hw13⟩, hc'⟩)) ?_
    rintro _ _ ⟨v11, us12, rfl, rfl, hw13⟩
    refine ⟨.inl rfl, ?_⟩
    refine W.cast (m' := m) (l' := hown 66 1 v11 _ _ :: hrows 35 1 encU _ _ :: hcells b3 [_, _, _] 26 :: hownT 68 3 Edge.enc (.slice none 0 0) (([] : List Edge)) :: hownT 27 1 encI (.slice none 0 0) (([] : List Int)) :: l) rfl rfl ?_
    refine W.q rfl rfl rfl rfl (by decide) (Yd.mv rfl (.t rfl)) ?_
    refine W.q rfl rfl rfl rfl (by decide) (Yd.ext rfl (.t rfl) rfl) ?_
    refine W.q rfl rfl rfl rfl (by decide) (Yd.ext rfl (.t rfl) rfl) ?_
    refine W.e rfl rfl rfl rfl (by decide) (Ef.al rfl ZR62 rfl) ?_
    rintro _ _ ⟨b15, rfl, rfl⟩
    refine ⟨.inl rfl, ?_⟩
    refine W.cast (m' := m) (l' := hcells b15 [_] 62 :: hown 66 1 v11 _ _ :: hrows 35 1 encU _ _ :: hcells b3 [_, _, _] 26 :: hownT 68 3 Edge.enc (.slice none 0 0) (([] : List Edge)) :: hownT 27 1 encI (.slice none 0 0) (([] : List Int)) :: l) rfl rfl ?_
    refine W.s rfl rfl rfl rfl (Ef.stBo (pos := 0) (pos2 := 1) (cs' := [_]) rfl rfl rfl (.t rfl) (.t rfl) SZ62 (Nat.le_of_ble_eq_true rfl) rfl) ?_
    rintro _ _ ⟨rfl, rfl⟩
    refine ⟨.inl rfl, ?_⟩
    refine W.cast (m' := m) (l' := hcells b15 [_] 62 :: hown 66 1 v11 _ _ :: hrows 35 1 encU _ _ :: hcells b3 [_, _, _] 26 :: hownT 68 3 Edge.enc (.slice none 0 0) (([] : List Edge)) :: hownT 27 1 encI (.slice none 0 0) (([] : List Int)) :: l) rfl rfl ?_
    refine W.q rfl rfl rfl rfl (by decide) (Yd.as rfl (.t rfl)) ?_
    refine W.end ?_
    refine NX.sub (env' := [(2, _), (6, _), (8, _), (9, _)]) ⟨rfl, rfl, rfl, rfl, trivial⟩ ?_
    refine NX.then ?_
    refine Tr.seq ?_
    refine Tr.seq ?_
    refine Tr.region_f (fun _ => false) ?_
    refine W.q rfl rfl rfl rfl (by decide) (Yd.mv rfl (.t rfl)) ?_
    refine W.q rfl rfl rfl rfl (by decide) (Yd.neq rfl (.t rfl) .c) ?_
    refine W.end ?_
    refine NX.sub (env' := [(2, _), (6, _), (8, _), (9, _), (28, _)]) ⟨rfl, rfl, rfl, rfl, rfl, trivial⟩ ?_
    refine NX.then ?_
    refine Tr.cond (.t rfl) (fun hb => ?_) (fun hb => ?_)
    · have hr := cond_t hb hr
      refine Tr.seq ?_
      refine Tr.region_f (fun i => Nat.beq i 2) ?_
      refine W.q rfl rfl rfl rfl (by decide) (Yd.bld (cells := [.slice none 0 0, .int .i64 ((0 : Int)), .slice none 0 0]) rfl ZI26 PL26 .nil rfl) ?_
      refine W.q rfl rfl rfl rfl (by decide) (Yd.mv rfl (.t rfl)) ?_
      refine W.s rfl rfl rfl rfl (Ef.stB (pos := 3) (us := [_, _, _]) (cs' := [_, _, _]) rfl rfl (.t rfl) (.t rfl) SZ26 rfl rfl rfl (Nat.le_of_ble_eq_true rfl) rfl) ?_
      rintro _ _ ⟨rfl, rfl⟩
      refine ⟨.inl rfl, ?_⟩
      refine W.cast (m' := m) (l' := hcells b15 [_] 62 :: hown 66 1 v11 _ _ :: hrows 35 1 encU _ _ :: hcells b3 [_, _, _] 26 :: hownT 68 3 Edge.enc (.slice none 0 0) (([] : List Edge)) :: hownT 27 1 encI (.slice none 0 0) (([] : List Int)) :: l) rfl rfl ?_
      refine W.q rfl rfl rfl rfl (by decide) (Yd.as rfl (.t rfl)) ?_
      refine W.end ?_
      refine NX.sub (env' := [(6, _), (7, _)]) ⟨rfl, rfl, trivial⟩ ?_
      refine NX.drop (l' := hcells b3 [_, _, _] 26 :: hownT 68 3 Edge.enc (.slice none 0 0) (([] : List Edge)) :: hownT 27 1 encI (.slice none 0 0) (([] : List Int)) :: l) (.cons _ (.cons _ (.cons _ (.cons_cons _ (.cons_cons _ (.cons_cons _ (.refl _))))))) ?_
      refine NX.then ?_
      refine Tr.ret' (RT.then ?_)
      refine resV2 rfl (Rv.cs (pos := 0) rfl rfl rfl ON26 US26 SZ26) (Rv.t rfl) ?_
      intro w hc
      cases hr
      obtain ⟨m17, hsm17, hu18, hc⟩ := cX_freeze (enc := encI) (n := 1) (p := 2) (fun _ => rfl) hc rfl
      have hedges_1 := hedges_1.mono hsm17
      have hscript_2 := hscript_2.mono hsm17
      obtain ⟨m19, hsm19, hu20, hc⟩ := cX_freeze (enc := Edge.enc) (n := 3) (p := 1) (fun _ => rfl) hc rfl
      have hedges_1 := hedges_1.mono hsm19
      have hscript_2 := hscript_2.mono hsm19
      have hu18 := hu18.mono hsm19
      exact ⟨_, _, _, rfl, (hsm17.trans hsm19), hu18, hu20, (cX_sub (.cons _ (.refl _)) hc)⟩
    · have hr := cond_f hb hr
      refine Tr.skip' ?_
      refine NX.then ?_
      refine Tr.seq ?_
      refine Tr.addnil 27 1 ?_
      refine Tr.cast (m' := m) (l' := hownT 27 1 encI (.slice none 0 0) (([] : List Int)) :: hcells b15 [v11] 62 :: hown 66 1 v11 r9.1.length us12 :: hrows 35 1 encU us12 r9.1 :: hcells b3 [(.slice none 0 0), .int .i64 ((0 : Int)), (.slice none 0 0)] 26 :: hownT 68 3 Edge.enc (.slice none 0 0) (([] : List Edge)) :: hownT 27 1 encI (.slice none 0 0) (([] : List Int)) :: l) rfl rfl ?_
      refine Tr.addnil 68 3 ?_
      refine Tr.cast (m' := m) (l' := hownT 68 3 Edge.enc (.slice none 0 0) (([] : List Edge)) :: hownT 27 1 encI (.slice none 0 0) (([] : List Int)) :: hcells b15 [v11] 62 :: hown 66 1 v11 r9.1.length us12 :: hrows 35 1 encU us12 r9.1 :: hcells b3 [(.slice none 0 0), .int .i64 ((0 : Int)), (.slice none 0 0)] 26 :: hownT 68 3 Edge.enc (.slice none 0 0) (([] : List Edge)) :: hownT 27 1 encI (.slice none 0 0) (([] : List Int)) :: l) rfl rfl ?_
      refine Tr.region_f (fun i => Nat.beq i 0) ?_
      refine W.e rfl rfl rfl rfl (by decide) (Ef.al rfl ZR26 rfl) ?_
      rintro _ _ ⟨b23, rfl, rfl⟩
      refine ⟨.inl rfl, ?_⟩
      refine W.cast (m' := m) (l' := hcells b23 [_, _, _] 26 :: hownT 68 3 Edge.enc (.slice none 0 0) (([] : List Edge)) :: hownT 27 1 encI (.slice none 0 0) (([] : List Int)) :: hcells b15 [_] 62 :: hown 66 1 v11 _ _ :: hrows 35 1 encU _ _ :: hcells b3 [_, _, _] 26 :: hownT 68 3 Edge.enc (.slice none 0 0) (([] : List Edge)) :: hownT 27 1 encI (.slice none 0 0) (([] : List Int)) :: l) rfl rfl ?_
      refine W.end ?_
      refine NX.sub (env' := [(2, _), (6, _), (8, _), (10, _)]) ⟨rfl, rfl, rfl, rfl, trivial⟩ ?_
      refine NX.then ?_
      refine Tr.seq ?_
      refine Tr.seq ?_
      refine Tr.region_f (fun _ => false) ?_
      refine W.q rfl rfl rfl rfl (by decide) (Yd.mv rfl (.t rfl)) ?_
      refine W.q rfl rfl rfl rfl (by decide) (Yd.lenR hscript_2 rfl Try.underlying23 (.t rfl)) ?_
      refine W.q rfl rfl rfl rfl (by decide) (Yd.mv rfl .c) ?_
      refine W.end ?_
      refine NX.sub (env' := [(6, _), (8, _), (10, _), (31, _), (32, _), (33, _)]) ⟨rfl, rfl, rfl, rfl, rfl, rfl, trivial⟩ ?_
      refine NX.then ?_
      refine Tr.join (S := fun env x => ∃ l39 : List Int, ∃ l41 : List (List (BitVec 32)), ∃ v40 : Value, ∃ v42 : Value, ∃ us43 : List Value, us43.length = l41.length ∧ env = [(6, bp b3 0), (8, bp b15 0), (10, bp b23 0)] ∧ x = ⟨m, hcells b23 [v40, .int .i64 ((0 : Int)), (.slice none 0 0)] 26 :: hownT 68 3 Edge.enc (.slice none 0 0) (([] : List Edge)) :: hownT 27 1 encI v40 l39 :: hcells b15 [v42] 62 :: hown 66 1 v42 l41.length us43 :: hrows 35 1 encU us43 l41 :: hcells b3 [(.slice none 0 0), .int .i64 ((0 : Int)), (.slice none 0 0)] 26 :: hownT 68 3 Edge.enc (.slice none 0 0) (([] : List Edge)) :: hownT 27 1 encI (.slice none 0 0) (([] : List Int)) :: l⟩ ∧ grant_Play_k45 l39 l41 = some r) ?_ (fun hk46 => ?_)
      · rintro _ _ ⟨l39, l41, v40, v42, us43, hw44, rfl, rfl, hr⟩
        unfold grant_Play_k45 at hr
        try dsimp only at hr
        refine NX.then ?_
        refine Tr.seq ?_
        refine Tr.region_f (fun i => Nat.beq i 3) ?_
        refine W.q rfl rfl rfl rfl (by decide) (Yd.ldB (pos := 3) rfl rfl rfl ON62 (.t rfl)) ?_
        refine W.q rfl rfl rfl rfl (by decide) (Yd.lenO (p := 4) rfl rfl Try.underlying62 (.t rfl)) ?_
        refine W.q rfl rfl rfl rfl (by decide) (Yd.fldB rfl Try.underlying26 rfl SZ3 rfl (.t rfl)) ?_
        refine W.s rfl rfl rfl rfl (Ef.stB (pos := 0) (us := [_]) (cs' := [_, _, _]) rfl rfl (.t rfl) (.t rfl) SZ3 rfl rfl rfl (Nat.le_of_ble_eq_true rfl) rfl) ?_
        rintro _ _ ⟨rfl, rfl⟩
        refine ⟨.inl rfl, ?_⟩
        refine W.cast (m' := m) (l' := hcells b23 [_, _, _] 26 :: hownT 68 3 Edge.enc (.slice none 0 0) (([] : List Edge)) :: hownT 27 1 encI v40 _ :: hcells b15 [_] 62 :: hown 66 1 v42 _ _ :: hrows 35 1 encU _ _ :: hcells b3 [_, _, _] 26 :: hownT 68 3 Edge.enc (.slice none 0 0) (([] : List Edge)) :: hownT 27 1 encI (.slice none 0 0) (([] : List Int)) :: l) rfl rfl ?_
        refine W.end ?_
        refine NX.sub (env' := [(6, _), (8, _), (10, _)]) ⟨rfl, rfl, rfl, trivial⟩ ?_
        refine NX.then ?_
        refine Tr.seq ?_
        refine Tr.seq ?_
        refine Tr.region_f (fun _ => false) ?_
        refine W.q rfl rfl rfl rfl (by decide) (Yd.ldB (pos := 3) rfl rfl rfl ON62 (.t rfl)) ?_
        refine W.q rfl rfl rfl rfl (by decide) (Yd.lenO (p := 4) rfl rfl Try.underlying62 (.t rfl)) ?_
        refine W.q rfl rfl rfl rfl (by decide) (Yd.mv rfl .c) ?_
        refine W.end ?_
        refine NX.sub (env' := [(6, _), (10, _), (48, _), (49, _), (50, _)]) ⟨rfl, rfl, rfl, rfl, rfl, trivial⟩ ?_
        refine NX.drop (l' := hcells b23 [_, _, _] 26 :: hownT 68 3 Edge.enc (.slice none 0 0) (([] : List Edge)) :: hownT 27 1 encI v40 _ :: hown 66 1 v42 _ _ :: hrows 35 1 encU _ _ :: hcells b3 [_, _, _] 26 :: hownT 68 3 Edge.enc (.slice none 0 0) (([] : List Edge)) :: hownT 27 1 encI (.slice none 0 0) (([] : List Int)) :: l) (.cons_cons _ (.cons_cons _ (.cons_cons _ (.cons _ (.cons_cons _ (.cons_cons _ (.cons_cons _ (.cons_cons _ (.cons_cons _ (.refl _)))))))))) ?_
        refine NX.then ?_
        refine Tr.join (S := fun env x => ∃ l53 : List Edge, ∃ v54 : Value, env = [(6, bp b3 0), (10, bp b23 0)] ∧ x = ⟨m, hcells b23 [v40, .int .i64 ((l41.length : Int)), v54] 26 :: hownT 68 3 Edge.enc v54 l53 :: hownT 27 1 encI v40 l39 :: hcells b3 [(.slice none 0 0), .int .i64 ((0 : Int)), (.slice none 0 0)] 26 :: hownT 68 3 Edge.enc (.slice none 0 0) (([] : List Edge)) :: hownT 27 1 encI (.slice none 0 0) (([] : List Int)) :: l⟩ ∧ grant_Play_k55 l39 l41 l53 = some r) ?_ (fun hk56 => ?_)
        · rintro _ _ ⟨l53, v54, rfl, rfl, hr⟩
          unfold grant_Play_k55 at hr
          try dsimp only at hr
          refine NX.then ?_
          refine Tr.seq ?_
          refine Tr.region_f (fun i => Nat.beq i 1) ?_
          refine W.q rfl rfl rfl rfl (by decide) (Yd.ldBs (pos := 0) (us := [_, _, _]) rfl rfl rfl rfl ON26 US26 SZ26 (.t rfl)) ?_
          refine W.s rfl rfl rfl rfl (Ef.stBs (pos := 3) (us := [v40, .int .i64 ((l41.length : Int)), v54]) (cs' := [_, _, _]) (.cons (On.own (pos := 2) rfl) (.cons (On.lit rfl) (.cons (On.own (pos := 1) rfl) .nil))) rfl rfl (.t rfl) (.t rfl) SZ26 rfl rfl (Nat.le_of_ble_eq_true rfl) rfl) ?_
          rintro _ _ ⟨rfl, rfl⟩
          refine ⟨.inl rfl, ?_⟩
          refine W.cast (m' := m) (l' := hcells b23 [_, _, _] 26 :: hownT 68 3 Edge.enc v54 _ :: hownT 27 1 encI v40 _ :: hcells b3 [_, _, _] 26 :: hownT 68 3 Edge.enc (.slice none 0 0) (([] : List Edge)) :: hownT 27 1 encI (.slice none 0 0) (([] : List Int)) :: l) rfl rfl ?_
          refine W.q rfl rfl rfl rfl (by decide) (Yd.as rfl .c) ?_
          refine W.end ?_
          refine NX.sub (env' := [(6, _), (7, _)]) ⟨rfl, rfl, trivial⟩ ?_
          refine NX.drop (l' := hownT 68 3 Edge.enc v54 _ :: hownT 27 1 encI v40 _ :: hcells b3 [_, _, _] 26 :: l) (.cons _ (.cons_cons _ (.cons_cons _ (.cons_cons _ (.cons _ (.cons _ (.refl _))))))) ?_
          refine NX.then ?_
          refine Tr.ret' ?_
          refine resV2 rfl (Rv.cs (pos := 2) rfl rfl rfl ON26 US26 SZ26) (Rv.t rfl) ?_
          intro w hc
          cases hr
          obtain ⟨m57, hsm57, hu58, hc⟩ := cX_freeze (enc := encI) (n := 1) (p := 1) (fun _ => rfl) hc rfl
          have hedges_1 := hedges_1.mono hsm57
          have hscript_2 := hscript_2.mono hsm57
          obtain ⟨m59, hsm59, hu60, hc⟩ := cX_freeze (enc := Edge.enc) (n := 3) (p := 0) (fun _ => rfl) hc rfl
          have hedges_1 := hedges_1.mono hsm59
          have hscript_2 := hscript_2.mono hsm59
          have hu58 := hu58.mono hsm59
          exact ⟨_, _, _, rfl, (hsm57.trans hsm59), hu58, hu60, (cX_sub (.cons _ (.refl _)) hc)⟩
        refine Tr.lenO (pos := 3) rfl (fun hlen61 => ?_)
        refine Tr.block ?_
        refine Tr.sub (env' := [(6, _), (10, _), (48, _), (49, _), (50, _)]) ⟨rfl, rfl, rfl, rfl, rfl, trivial⟩ ?_
        refine Tr.loop (S := fun n (z : Int × (List Edge)) env x => match z with | (t_62, l51) => ∃ v52 : Value, env = [(6, bp b3 0), (10, bp b23 0), (48, v42), (49, .int .i64 ((l41.length : Int))), (50, .int .i64 t_62)] ∧ x = ⟨m, hcells b23 [v40, .int .i64 ((l41.length : Int)), v52] 26 :: hownT 68 3 Edge.enc v52 l51 :: hownT 27 1 encI v40 l39 :: hown 66 1 v42 l41.length us43 :: hrows 35 1 encU us43 l41 :: hcells b3 [(.slice none 0 0), .int .i64 ((0 : Int)), (.slice none 0 0)] 26 :: hownT 68 3 Edge.enc (.slice none 0 0) (([] : List Edge)) :: hownT 27 1 encI (.slice none 0 0) (([] : List Int)) :: l⟩ ∧ n = ((l41.length : Int) - t_62).toNat ∧ 0 ≤ t_62 ∧ forK (σ := (List Edge)) (fun i s nx_ => grant_Play_b63 l41 i s nx_) (fun s => grant_Play_k55 l39 l41 s) n t_62 l51 = some r) _ ((0 : Int), ([] : List Edge)) ⟨_, rfl, rfl, rfl, (by omega), hr⟩ ?_
        rintro n65 ⟨t_62, l51⟩ env x ⟨v52, rfl, rfl, hnt_62, h0t_62, hr⟩
        cases n65 with
        | zero =>
          simp only [forK] at hr
          refine Tr.seq ?_
          refine Tr.region_f (fun _ => false) ?_
          refine W.q rfl rfl rfl rfl (by decide) (Yd.lss rfl (.t rfl) (.t rfl)) ?_
          refine W.end ?_
          refine NX.sub (env' := [(6, _), (10, _), (48, _), (49, _), (50, _), (51, _)]) ⟨rfl, rfl, rfl, rfl, rfl, rfl, trivial⟩ ?_
          refine NX.then ?_
          refine Tr.seq ?_
          refine Tr.cond (.t rfl) (fun hb => ?_) (fun hb => ?_)
          · exact absurd (hb.symm.trans (fr_end hnt_62)) (by decide)
          ·
            refine Tr.exit' (EX.then (EX.then (EX.block ?_)))
            refine NX.sub (env' := [(6, _), (10, _)]) ⟨rfl, rfl, trivial⟩ ?_
            refine NX.drop (l' := hcells b23 [_, _, _] 26 :: hownT 68 3 Edge.enc v52 _ :: hownT 27 1 encI v40 _ :: hcells b3 [_, _, _] 26 :: hownT 68 3 Edge.enc (.slice none 0 0) (([] : List Edge)) :: hownT 27 1 encI (.slice none 0 0) (([] : List Int)) :: l) (.cons_cons _ (.cons_cons _ (.cons_cons _ (.cons _ (.cons _ (.cons_cons _ (.cons_cons _ (.cons_cons _ (.refl _))))))))) ?_
            exact hk56 _ _ ⟨_, _, rfl, rfl, hr⟩
        | succ n65 =>
          obtain ⟨nx64, hnx64, hr⟩ := forK_succ hr
          try dsimp only at hr
          unfold grant_Play_b63 at hr
          try dsimp only at hr
          have hltt_62 := fr_bnd hnt_62
          refine Tr.seq ?_
          refine Tr.region_f (fun _ => false) ?_
          refine W.q rfl rfl rfl rfl (by decide) (Yd.lss rfl (.t rfl) (.t rfl)) ?_
          refine W.end ?_
          refine NX.sub (env' := [(6, _), (10, _), (48, _), (49, _), (50, _), (51, _)]) ⟨rfl, rfl, rfl, rfl, rfl, rfl, trivial⟩ ?_
          refine NX.then ?_
          refine Tr.seq ?_
          refine Tr.cond (.t rfl) (fun hb => ?_) (fun hb => ?_)
          rotate_left
          · exact absurd (hb.symm.trans (fr_go hnt_62)) (by decide)
          ·
            refine Tr.skip' ?_
            refine NX.then ?_
            refine Tr.seq ?_
            refine Tr.block ?_
            refine Tr.seq ?_
            obtain ⟨y66, hy67, hr⟩ := bind_some hr
            refine Tr.region_f (fun _ => false) ?_
            refine W.q rfl rfl rfl rfl (by decide) (Yd.mv rfl (.t rfl)) ?_
            refine W.q rfl rfl rfl rfl (by decide) (Yd.idxO (pos := 3) (xs := l41) rfl hy67 rfl Try.underlying62 SZ66 (.t rfl) (.t rfl)) ?_
            obtain ⟨u68, hu69⟩ := us_get hw44 hy67
            refine W.q rfl rfl rfl rfl (by decide) (Yd.ldU (pos := 3) rfl hu69 rfl ON66 (.t rfl)) ?_
            refine W.q rfl rfl rfl rfl (by decide) (Yd.as rfl (.t rfl)) ?_
            refine W.q rfl rfl rfl rfl (by decide) (Yd.as rfl (.t rfl)) ?_
            refine W.end ?_
            refine NX.sub (env' := [(6, _), (10, _), (48, _), (49, _), (50, _), (13, _), (14, _)]) ⟨rfl, rfl, rfl, rfl, rfl, rfl, rfl, trivial⟩ ?_
            refine NX.then ?_
            refine Tr.seq ?_
            refine Tr.region_f (fun _ => false) ?_
            refine W.q rfl rfl rfl rfl (by decide) (Yd.mv rfl (.t rfl)) ?_
            refine W.q rfl rfl rfl rfl (by decide) (Yd.lenM (pos := 4) rfl hu69 hy67 rfl Try.underlying66 (.t rfl)) ?_
            refine W.q rfl rfl rfl rfl (by decide) (Yd.mv rfl .c) ?_
            refine W.end ?_
            refine NX.sub (env' := [(6, _), (10, _), (48, _), (49, _), (50, _), (13, _), (55, _), (56, _), (57, _)]) ⟨rfl, rfl, rfl, rfl, rfl, rfl, rfl, rfl, rfl, trivial⟩ ?_
            refine NX.then ?_
            refine Tr.join (S := fun env x => ∃ l76 : List Edge, ∃ v77 : Value, env = [(6, bp b3 0), (10, bp b23 0), (48, v42), (49, .int .i64 ((l41.length : Int))), (50, .int .i64 t_62)] ∧ x = ⟨m, hcells b23 [v40, .int .i64 ((l41.length : Int)), v77] 26 :: hownT 68 3 Edge.enc v77 l76 :: hownT 27 1 encI v40 l39 :: hown 66 1 v42 l41.length us43 :: hrows 35 1 encU us43 l41 :: hcells b3 [(.slice none 0 0), .int .i64 ((0 : Int)), (.slice none 0 0)] 26 :: hownT 68 3 Edge.enc (.slice none 0 0) (([] : List Edge)) :: hownT 27 1 encI (.slice none 0 0) (([] : List Int)) :: l⟩ ∧ grant_Play_k78 nx64 l76 = some r) ?_ (fun hk79 => ?_)
            · rintro _ _ ⟨l76, v77, rfl, rfl, hr⟩
              unfold grant_Play_k78 at hr
              try dsimp only at hr
              refine NX.block ?_
              refine NX.then ?_
              refine Tr.region_f (fun _ => false) ?_
              refine W.q rfl rfl rfl rfl (by decide) (Yd.add rfl (.t rfl) .c) ?_
              refine W.q rfl rfl rfl rfl (by decide) (Yd.mv rfl (.t rfl)) ?_
              refine W.end ?_
              refine NX.sub (env' := [(6, _), (10, _), (48, _), (49, _), (50, _)]) ⟨rfl, rfl, rfl, rfl, rfl, trivial⟩ ?_
              refine NX.sub (env' := [(6, _), (10, _), (48, _), (49, _), (50, _)]) ⟨rfl, rfl, rfl, rfl, rfl, trivial⟩ ?_
              have hw := w64_id (n := t_62 + 1) (by omega) (by omega)
              exact NX.again n65 (t_62 + 1, l76) (Nat.lt_succ_self _) ⟨_, (by rw [hw] <;> rfl), rfl, (fr_dec hnt_62), (by omega), ((hnx64 _).symm.trans hr)⟩
            obtain ⟨hle80, hr⟩ := guard_some hr; replace hle80 := of_decide_eq_true hle80
            refine Tr.block ?_
            refine Tr.sub (env' := [(6, _), (10, _), (13, _), (48, _), (49, _), (50, _), (55, _), (56, _), (57, _)]) ⟨rfl, rfl, rfl, rfl, rfl, rfl, rfl, rfl, rfl, trivial⟩ ?_
            refine Tr.loop (S := fun n (z : Int × (List Edge)) env x => match z with | (t_81, l74) => ∃ v75 : Value, env = [(6, bp b3 0), (10, bp b23 0), (13, .int .i64 t_62), (48, v42), (49, .int .i64 ((l41.length : Int))), (50, .int .i64 t_62), (55, u68), (56, .int .i64 ((y66.length : Int))), (57, .int .i64 t_81)] ∧ x = ⟨m, hcells b23 [v40, .int .i64 ((l41.length : Int)), v75] 26 :: hownT 68 3 Edge.enc v75 l74 :: hownT 27 1 encI v40 l39 :: hown 66 1 v42 l41.length us43 :: hrows 35 1 encU us43 l41 :: hcells b3 [(.slice none 0 0), .int .i64 ((0 : Int)), (.slice none 0 0)] 26 :: hownT 68 3 Edge.enc (.slice none 0 0) (([] : List Edge)) :: hownT 27 1 encI (.slice none 0 0) (([] : List Int)) :: l⟩ ∧ n = ((y66.length : Int) - t_81).toNat ∧ 0 ≤ t_81 ∧ forK (σ := (List Edge)) (fun i s nx_ => grant_Play_b82 t_62 y66 i s nx_) (fun s => grant_Play_k78 nx64 s) n t_81 l74 = some r) _ ((0 : Int), l51) ⟨_, rfl, rfl, rfl, (by omega), hr⟩ ?_
            rintro n84 ⟨t_81, l74⟩ env x ⟨v75, rfl, rfl, hnt_81, h0t_81, hr⟩
            cases n84 with
            | zero =>
              simp only [forK] at hr
              refine Tr.seq ?_
              refine Tr.region_f (fun _ => false) ?_
              refine W.q rfl rfl rfl rfl (by decide) (Yd.lss rfl (.t rfl) (.t rfl)) ?_
              refine W.end ?_
              refine NX.sub (env' := [(6, _), (10, _), (13, _), (48, _), (49, _), (50, _), (55, _), (56, _), (57, _), (58, _)]) ⟨rfl, rfl, rfl, rfl, rfl, rfl, rfl, rfl, rfl, rfl, trivial⟩ ?_
              refine NX.then ?_
              refine Tr.seq ?_
              refine Tr.cond (.t rfl) (fun hb => ?_) (fun hb => ?_)
              · exact absurd (hb.symm.trans (fr_end hnt_81)) (by decide)
              ·
                refine Tr.exit' (EX.then (EX.then (EX.block ?_)))
                refine NX.sub (env' := [(6, _), (10, _), (48, _), (49, _), (50, _)]) ⟨rfl, rfl, rfl, rfl, rfl, trivial⟩ ?_
                exact hk79 _ _ ⟨_, _, rfl, rfl, hr⟩
            | succ n84 =>
              obtain ⟨nx83, hnx83, hr⟩ := forK_succ hr
              try dsimp only at hr
              unfold grant_Play_b82 at hr
              try dsimp only at hr
              have hltt_81 := fr_bnd hnt_81
              refine Tr.seq ?_
              refine Tr.region_f (fun _ => false) ?_
              refine W.q rfl rfl rfl rfl (by decide) (Yd.lss rfl (.t rfl) (.t rfl)) ?_
              refine W.end ?_
              refine NX.sub (env' := [(6, _), (10, _), (13, _), (48, _), (49, _), (50, _), (55, _), (56, _), (57, _), (58, _)]) ⟨rfl, rfl, rfl, rfl, rfl, rfl, rfl, rfl, rfl, rfl, trivial⟩ ?_
              refine NX.then ?_
              refine Tr.seq ?_
              refine Tr.cond (.t rfl) (fun hb => ?_) (fun hb => ?_)
              rotate_left
              · exact absurd (hb.symm.trans (fr_go hnt_81)) (by decide)
              ·
                refine Tr.skip' ?_
                refine NX.then ?_
                refine Tr.seq ?_
                refine Tr.block ?_
                refine Tr.seq ?_
                obtain ⟨y85, hy86, hr⟩ := bind_some hr
                refine Tr.region_f (fun _ => false) ?_
                refine W.q rfl rfl rfl rfl (by decide) (Yd.mv rfl (.t rfl)) ?_
                refine W.q rfl rfl rfl rfl (by decide) (Yd.idxM (pos := 4) rfl hu69 hy67 hy86 rfl Try.underlying66 SZ35 (.t rfl) (.t rfl)) ?_
                refine W.q rfl rfl rfl rfl (by decide) (Yd.ldM (enc := encU) (n := 1) (pos := 4) (fun _ => rfl) rfl hu69 hy67 hy86 rfl rfl ON35 (.t rfl)) ?_
                refine W.q rfl rfl rfl rfl (by decide) (Yd.as rfl (.t rfl)) ?_
                refine W.q rfl rfl rfl rfl (by decide) (Yd.as rfl (.t rfl)) ?_
                refine W.end ?_
                refine NX.sub (env' := [(6, _), (10, _), (13, _), (48, _), (49, _), (50, _), (55, _), (56, _), (57, _), (15, _), (16, _)]) ⟨rfl, rfl, rfl, rfl, rfl, rfl, rfl, rfl, rfl, rfl, rfl, trivial⟩ ?_
                refine NX.then ?_
                refine Tr.seq ?_
                refine Tr.region_f (fun _ => false) ?_
                refine W.q rfl rfl rfl rfl (by decide) (Yd.mv rfl (.t rfl)) ?_
                refine W.q rfl rfl rfl rfl (by decide) (Yd.neqU (a := y85) (b := 0#32) rfl (.t rfl) .c) ?_
                refine W.end ?_
                refine NX.sub (env' := [(6, _), (10, _), (13, _), (48, _), (49, _), (50, _), (55, _), (56, _), (57, _), (15, _), (16, _), (63, _)]) ⟨rfl, rfl, rfl, rfl, rfl, rfl, rfl, rfl, rfl, rfl, rfl, rfl, trivial⟩ ?_
                refine NX.then ?_
                refine Tr.cond (.t rfl) (fun hb => ?_) (fun hb => ?_)
                · have hr := cond_t hb hr
                  obtain ⟨hq90, hr⟩ := guard_some hr; replace hq90 := of_decide_eq_true hq90
                  refine Tr.region_f (fun i => Nat.beq i 6 || Nat.beq i 7 || Nat.beq i 9) ?_
                  refine W.q rfl rfl rfl rfl (by decide) (Yd.fldB rfl Try.underlying26 rfl SZ22 rfl (.t rfl)) ?_
                  refine W.q rfl rfl rfl rfl (by decide) (Yd.ldB (pos := 0) rfl rfl rfl ON22 (.t rfl)) ?_
                  refine W.q rfl rfl rfl rfl (by decide) (Yd.mv rfl (.t rfl)) ?_
                  refine W.q rfl rfl rfl rfl (by decide) (Yd.mv rfl (.t rfl)) ?_
                  refine W.q rfl rfl rfl rfl (by decide) (Yd.mv rfl (.t rfl)) ?_
                  refine W.q rfl rfl rfl rfl (by decide) (Yd.bld (cells := [.int .i64 t_62, .int .i64 t_81, .int .u32 (y85.toNat : Int)]) rfl ZI68 PL68 (.cons (.t rfl) (.cons (.t rfl) (.cons (.t rfl) .nil))) rfl) ?_
                  refine W.e rfl rfl rfl rfl (by decide) (Ef.bsT (enc := Edge.enc) (vs := [_]) (ys := [({ src := t_62, to := t_81, rights := y85 } : Edge)]) (fun _ => rfl) IF68 rfl Try.underlying22 (by decide) rfl (.cons (.t rfl) .nil) rfl rfl (by decide)) ?_
                  rintro v87 _ rfl
                  refine ⟨.inl rfl, ?_⟩
                  refine W.cast (m' := m) (l' := hownT 68 3 Edge.enc v87 _ :: hcells b23 [_, _, _] 26 :: hownT 68 3 Edge.enc v75 _ :: hownT 27 1 encI v40 _ :: hown 66 1 v42 _ _ :: hrows 35 1 encU _ _ :: hcells b3 [_, _, _] 26 :: hownT 68 3 Edge.enc (.slice none 0 0) (([] : List Edge)) :: hownT 27 1 encI (.slice none 0 0) (([] : List Int)) :: l) rfl rfl ?_
                  refine W.e rfl rfl rfl rfl (by decide) (Ef.apI (pos := 2) (enc := Edge.enc) (xs := l74) (ys := ([({ src := t_62, to := t_81, rights := y85 } : Edge)] : List Edge)) (fun _ => rfl) IF68 rfl rfl Try.underlying22 rfl (by decide) (.t rfl) (.t rfl) (Src.own (pos := 0) rfl) (fun _ => rfl) (by omega) (by omega)) ?_
                  rintro v89 _ rfl
                  refine ⟨.inl rfl, ?_⟩
                  refine W.cast (m' := m) (l' := hownT 68 3 Edge.enc v87 _ :: hcells b23 [_, _, _] 26 :: hownT 68 3 Edge.enc v89 _ :: hownT 27 1 encI v40 _ :: hown 66 1 v42 _ _ :: hrows 35 1 encU _ _ :: hcells b3 [_, _, _] 26 :: hownT 68 3 Edge.enc (.slice none 0 0) (([] : List Edge)) :: hownT 27 1 encI (.slice none 0 0) (([] : List Int)) :: l) rfl rfl ?_
                  refine W.q rfl rfl rfl rfl (by decide) (Yd.fldB rfl Try.underlying26 rfl SZ22 rfl (.t rfl)) ?_
                  refine W.s rfl rfl rfl rfl (Ef.stBo (pos := 1) (pos2 := 2) (cs' := [_, _, _]) rfl rfl rfl (.t rfl) (.t rfl) SZ22 (Nat.le_of_ble_eq_true rfl) rfl) ?_
                  rintro _ _ ⟨rfl, rfl⟩
                  refine ⟨.inl rfl, ?_⟩
                  refine W.cast (m' := m) (l' := hownT 68 3 Edge.enc v87 _ :: hcells b23 [_, _, _] 26 :: hownT 68 3 Edge.enc v89 _ :: hownT 27 1 encI v40 _ :: hown 66 1 v42 _ _ :: hrows 35 1 encU _ _ :: hcells b3 [_, _, _] 26 :: hownT 68 3 Edge.enc (.slice none 0 0) (([] : List Edge)) :: hownT 27 1 encI (.slice none 0 0) (([] : List Int)) :: l) rfl rfl ?_
                  refine W.end ?_
                  refine NX.sub (env' := [(6, _), (10, _), (13, _), (48, _), (49, _), (50, _), (55, _), (56, _), (57, _)]) ⟨rfl, rfl, rfl, rfl, rfl, rfl, rfl, rfl, rfl, trivial⟩ ?_
                  refine NX.drop (l' := hcells b23 [_, _, _] 26 :: hownT 68 3 Edge.enc v89 _ :: hownT 27 1 encI v40 _ :: hown 66 1 v42 _ _ :: hrows 35 1 encU _ _ :: hcells b3 [_, _, _] 26 :: hownT 68 3 Edge.enc (.slice none 0 0) (([] : List Edge)) :: hownT 27 1 encI (.slice none 0 0) (([] : List Int)) :: l) (.cons _ (.cons_cons _ (.cons_cons _ (.cons_cons _ (.cons_cons _ (.cons_cons _ (.cons_cons _ (.cons_cons _ (.cons_cons _ (.refl _)))))))))) ?_
                  refine NX.block ?_
                  refine NX.then ?_
                  refine Tr.region_f (fun _ => false) ?_
                  refine W.q rfl rfl rfl rfl (by decide) (Yd.add rfl (.t rfl) .c) ?_
                  refine W.q rfl rfl rfl rfl (by decide) (Yd.mv rfl (.t rfl)) ?_
                  refine W.end ?_
                  refine NX.sub (env' := [(6, _), (10, _), (13, _), (48, _), (49, _), (50, _), (55, _), (56, _), (57, _)]) ⟨rfl, rfl, rfl, rfl, rfl, rfl, rfl, rfl, rfl, trivial⟩ ?_
                  refine NX.sub (env' := [(6, _), (10, _), (13, _), (48, _), (49, _), (50, _), (55, _), (56, _), (57, _)]) ⟨rfl, rfl, rfl, rfl, rfl, rfl, rfl, rfl, rfl, trivial⟩ ?_
                  have hw := w64_id (n := t_81 + 1) (by omega) (by omega)
                  exact NX.again n84 (t_81 + 1, (l74 ++ ([({ src := t_62, to := t_81, rights := y85 } : Edge)] : List Edge))) (Nat.lt_succ_self _) ⟨_, (by rw [hw] <;> rfl), rfl, (fr_dec hnt_81), (by omega), ((hnx83 _).symm.trans hr)⟩
                · have hr := cond_f hb hr
                  refine Tr.skip' ?_
                  refine NX.block ?_
                  refine NX.then ?_
                  refine Tr.region_f (fun _ => false) ?_
                  refine W.q rfl rfl rfl rfl (by decide) (Yd.add rfl (.t rfl) .c) ?_
                  refine W.q rfl rfl rfl rfl (by decide) (Yd.mv rfl (.t rfl)) ?_
                  refine W.end ?_
                  refine NX.sub (env' := [(6, _), (10, _), (13, _), (48, _), (49, _), (50, _), (55, _), (56, _), (57, _)]) ⟨rfl, rfl, rfl, rfl, rfl, rfl, rfl, rfl, rfl, trivial⟩ ?_
                  refine NX.sub (env' := [(6, _), (10, _), (13, _), (48, _), (49, _), (50, _), (55, _), (56, _), (57, _)]) ⟨rfl, rfl, rfl, rfl, rfl, rfl, rfl, rfl, rfl, trivial⟩ ?_
                  have hw := w64_id (n := t_81 + 1) (by omega) (by omega)
                  exact NX.again n84 (t_81 + 1, l74) (Nat.lt_succ_self _) ⟨_, (by rw [hw] <;> rfl), rfl, (fr_dec hnt_81), (by omega), ((hnx83 _).symm.trans hr)⟩
      have hlen91 := (hscript_2).2.1
      refine Tr.block ?_
      refine Tr.sub (env' := [(6, _), (8, _), (10, _), (31, _), (32, _), (33, _)]) ⟨rfl, rfl, rfl, rfl, rfl, rfl, trivial⟩ ?_
      refine Tr.loop (S := fun n (z : Int × (List Int) × (List (List (BitVec 32)))) env x => match z with | (t_92, l33, l35) => ∃ v34 : Value, ∃ v36 : Value, ∃ us37 : List Value, us37.length = l35.length ∧ env = [(6, bp b3 0), (8, bp b15 0), (10, bp b23 0), (31, uscript_2), (32, .int .i64 ((script_2.length : Int))), (33, .int .i64 t_92)] ∧ x = ⟨m, hcells b23 [v34, .int .i64 ((0 : Int)), (.slice none 0 0)] 26 :: hownT 68 3 Edge.enc (.slice none 0 0) (([] : List Edge)) :: hownT 27 1 encI v34 l33 :: hcells b15 [v36] 62 :: hown 66 1 v36 l35.length us37 :: hrows 35 1 encU us37 l35 :: hcells b3 [(.slice none 0 0), .int .i64 ((0 : Int)), (.slice none 0 0)] 26 :: hownT 68 3 Edge.enc (.slice none 0 0) (([] : List Edge)) :: hownT 27 1 encI (.slice none 0 0) (([] : List Int)) :: l⟩ ∧ n = ((script_2.length : Int) - t_92).toNat ∧ 0 ≤ t_92 ∧ forK (σ := (List Int) × (List (List (BitVec 32)))) (fun i s nx_ => grant_Play_b93 script_2 i s.1 s.2 nx_) (fun s => grant_Play_k45 s.1 s.2) n t_92 (l33, l35) = some r) _ ((0 : Int), ([] : List Int), r9.1) ⟨_, _, _, hw13, rfl, rfl, rfl, (by omega), hr⟩ ?_
      rintro n95 ⟨t_92, l33, l35⟩ env x ⟨v34, v36, us37, hw38, rfl, rfl, hnt_92, h0t_92, hr⟩
      cases n95 with
      | zero =>
        simp only [forK] at hr
        refine Tr.seq ?_
        refine Tr.region_f (fun _ => false) ?_
        refine W.q rfl rfl rfl rfl (by decide) (Yd.lss rfl (.t rfl) (.t rfl)) ?_
        refine W.end ?_
        refine NX.sub (env' := [(6, _), (8, _), (10, _), (31, _), (32, _), (33, _), (34, _)]) ⟨rfl, rfl, rfl, rfl, rfl, rfl, rfl, trivial⟩ ?_
        refine NX.then ?_
        refine Tr.seq ?_
        refine Tr.cond (.t rfl) (fun hb => ?_) (fun hb => ?_)
        · exact absurd (hb.symm.trans (fr_end hnt_92)) (by decide)
        ·
          refine Tr.exit' (EX.then (EX.then (EX.block ?_)))
          refine NX.sub (env' := [(6, _), (8, _), (10, _)]) ⟨rfl, rfl, rfl, trivial⟩ ?_
          exact hk46 _ _ ⟨_, _, _, _, _, hw38, rfl, rfl, hr⟩
      | succ n95 =>
        obtain ⟨nx94, hnx94, hr⟩ := forK_succ hr
        try dsimp only at hr
        unfold grant_Play_b93 at hr
        try dsimp only at hr
        have hltt_92 := fr_bnd hnt_92
        refine Tr.seq ?_
        refine Tr.region_f (fun _ => false) ?_
        refine W.q rfl rfl rfl rfl (by decide) (Yd.lss rfl (.t rfl) (.t rfl)) ?_
        refine W.end ?_
        refine NX.sub (env' := [(6, _), (8, _), (10, _), (31, _), (32, _), (33, _), (34, _)]) ⟨rfl, rfl, rfl, rfl, rfl, rfl, rfl, trivial⟩ ?_
        refine NX.then ?_
        refine Tr.seq ?_
        refine Tr.cond (.t rfl) (fun hb => ?_) (fun hb => ?_)
        rotate_left
        · exact absurd (hb.symm.trans (fr_go hnt_92)) (by decide)
        ·
          refine Tr.skip' ?_
          refine NX.then ?_
          refine Tr.seq ?_
          refine Tr.block ?_
          refine Tr.seq ?_
          obtain ⟨y96, hy97, hr⟩ := bind_some hr
          refine Tr.region_f (fun i => Nat.beq i 2 || Nat.beq i 3) ?_
          refine W.q rfl rfl rfl rfl (by decide) (Yd.idxR hscript_2 hy97 rfl Try.underlying23 SZ46 (.t rfl) (.t rfl)) ?_
          refine W.q rfl rfl rfl rfl (by decide) (Yd.ldFs (us := [_, _, _, _, _, _]) hscript_2 (.refl _) hy97 rfl rfl ON46 US46 SZ46 (.t rfl)) ?_
          refine W.e rfl rfl rfl rfl (by decide) (Ef.al rfl ZR46 rfl) ?_
          rintro _ _ ⟨b98, rfl, rfl⟩
          refine ⟨.inl rfl, ?_⟩
          refine W.cast (m' := m) (l' := hcells b98 [_, _, _, _, _, _] 46 :: hcells b23 [_, _, _] 26 :: hownT 68 3 Edge.enc (.slice none 0 0) (([] : List Edge)) :: hownT 27 1 encI v34 _ :: hcells b15 [_] 62 :: hown 66 1 v36 _ _ :: hrows 35 1 encU _ _ :: hcells b3 [_, _, _] 26 :: hownT 68 3 Edge.enc (.slice none 0 0) (([] : List Edge)) :: hownT 27 1 encI (.slice none 0 0) (([] : List Int)) :: l) rfl rfl ?_
          refine W.s rfl rfl rfl rfl (Ef.stB (pos := 0) (us := [_, _, _, _, _, _]) (cs' := [_, _, _, _, _, _]) rfl rfl (.t rfl) (.t rfl) SZ46 rfl rfl rfl (Nat.le_of_ble_eq_true rfl) rfl) ?_
          rintro _ _ ⟨rfl, rfl⟩
          refine ⟨.inl rfl, ?_⟩
          refine W.cast (m' := m) (l' := hcells b98 [_, _, _, _, _, _] 46 :: hcells b23 [_, _, _] 26 :: hownT 68 3 Edge.enc (.slice none 0 0) (([] : List Edge)) :: hownT 27 1 encI v34 _ :: hcells b15 [_] 62 :: hown 66 1 v36 _ _ :: hrows 35 1 encU _ _ :: hcells b3 [_, _, _] 26 :: hownT 68 3 Edge.enc (.slice none 0 0) (([] : List Edge)) :: hownT 27 1 encI (.slice none 0 0) (([] : List Int)) :: l) rfl rfl ?_
          refine W.end ?_
          refine NX.sub (env' := [(6, _), (8, _), (10, _), (31, _), (32, _), (33, _), (12, _)]) ⟨rfl, rfl, rfl, rfl, rfl, rfl, rfl, trivial⟩ ?_
          refine NX.then ?_
          obtain ⟨r100, hr101, hr⟩ := bind_some hr
          obtain ⟨hq108, hr⟩ := guard_some hr; replace hq108 := of_decide_eq_true hq108
          refine Tr.region_xJ (fun x => Sle m x.m ∧ (∃ p : Nat, x.l[p]? = some (hcells b23 [v34, .int .i64 ((0 : Int)), (.slice none 0 0)] 26)) ∧ True) (fun _ _ hx h => by obtain ⟨hm, ⟨_, h0⟩, _⟩ := h; exact ⟨hm.trans hx.1, hx.at h0, trivial⟩) (fun i => Nat.beq i 3) (fun i => Nat.beq i 1) (fun i => Nat.beq i 3 || Nat.beq i 4 || Nat.beq i 5 || Nat.beq i 7) (fun i => Nat.beq i 0 || Nat.beq i 1 || Nat.beq i 3 || Nat.beq i 5 || Nat.beq i 7) (Ord.of [0, 1, 2, 3, 4, 5, 6, 7]) FM (by kernel_rfl) ?_
          refine W.p rfl rfl rfl rfl (by decide) (fun _ => Yd.fldB rfl Try.underlying26 rfl SZ24 rfl (.t rfl)) ?_
          refine W.pJ rfl rfl rfl rfl (by decide) (fun _ h => by obtain ⟨jhm, ⟨jp0, jhp0⟩, _⟩ := h; exact Yd.ldB (pos := jp0) jhp0 rfl rfl ON24 (.t rfl)) ⟨(.refl _), ⟨1, rfl⟩, trivial⟩ rfl ?_
          refine W.q rfl rfl rfl rfl (by decide) (Yd.ldBs (pos := 0) (us := [_, _, _, _, _, _]) rfl rfl rfl rfl ON46 US46 SZ46 (.t rfl)) ?_
          refine W.e rfl rfl rfl rfl (by decide) (Ef.call (R := fun z x' => ∃ v109 : Value, ∃ us110 : List Value, z = .int .i64 r100.1 ∧ x' = ⟨m, hcells b15 [v109] 62 :: hown 66 1 v109 r100.2.length us110 :: hrows 35 1 encU us110 r100.2 :: hcells b98 [.int .i64 y96.kind, .int .i64 y96.by_, .int .i64 y96.to, .int .i64 y96.label.level, .int .u32 (y96.label.parts.toNat : Int), .int .i64 y96.val] 46 :: hcells b23 [v34, .int .i64 ((0 : Int)), (.slice none 0 0)] 26 :: hownT 68 3 Edge.enc (.slice none 0 0) (([] : List Edge)) :: hownT 27 1 encI v34 l33 :: hcells b3 [(.slice none 0 0), .int .i64 ((0 : Int)), (.slice none 0 0)] 26 :: hownT 68 3 Edge.enc (.slice none 0 0) (([] : List Edge)) :: hownT 27 1 encI (.slice none 0 0) (([] : List Int)) :: l⟩ ∧ us110.length = r100.2.length) rfl Try.func23 rfl rfl (.cons (.t rfl) (.cons (.t rfl) .nil)) (by intro w hw; replace hw := cX_front (p := 6) hw rfl; replace hw := cX_front (p := 6) hw rfl; replace hw := cX_front (p := 6) hw rfl; exact (grant_graph_do_ok w0 _ _ _ _ _ _ hw38 (({ kind := y96.kind, by_ := y96.by_, to := y96.to, label := ({ level := y96.label.level, parts := y96.label.parts } : Label), val := y96.val } : Deed)) _ hr101 w hw).mono fun e w' ⟨v109, us110, he, hw111, hc'⟩ => ⟨_, _, he, ⟨v109, us110, rfl, rfl, hw111⟩, hc'⟩)) ?_ (hJ := by rintro _ _ ⟨v109, us110, rfl, rfl, hw111⟩; exact fun _ => ⟨(.refl _), ⟨4, rfl⟩, trivial⟩)
          rintro _ _ ⟨v109, us110, rfl, rfl, hw111⟩
          refine ⟨.inl rfl, ?_⟩
          refine W.cast (m' := m) (l' := hcells b15 [_] 62 :: hown 66 1 v109 _ _ :: hrows 35 1 encU _ _ :: hcells b98 [_, _, _, _, _, _] 46 :: hcells b23 [_, _, _] 26 :: hownT 68 3 Edge.enc (.slice none 0 0) (([] : List Edge)) :: hownT 27 1 encI v34 _ :: hcells b3 [_, _, _] 26 :: hownT 68 3 Edge.enc (.slice none 0 0) (([] : List Edge)) :: hownT 27 1 encI (.slice none 0 0) (([] : List Int)) :: l) rfl rfl ?_
          refine W.e rfl rfl rfl rfl (by decide) (Ef.bsT (enc := encI) (vs := [_]) (ys := [r100.1]) (fun _ => rfl) IF27 rfl Try.underlying24 (by decide) rfl (.cons (.t rfl) .nil) rfl rfl (by decide)) ?_ (hJ := fun _ _ _ h => absurd (show false = true from h) (by decide))
          rintro v112 _ rfl
          refine ⟨.inr ⟨.refl _, [_], rfl⟩, ?_⟩
          refine W.cast (m' := m) (l' := hownT 27 1 encI v112 _ :: hcells b15 [_] 62 :: hown 66 1 v109 _ _ :: hrows 35 1 encU _ _ :: hcells b98 [_, _, _, _, _, _] 46 :: hcells b23 [_, _, _] 26 :: hownT 68 3 Edge.enc (.slice none 0 0) (([] : List Edge)) :: hownT 27 1 encI v34 _ :: hcells b3 [_, _, _] 26 :: hownT 68 3 Edge.enc (.slice none 0 0) (([] : List Edge)) :: hownT 27 1 encI (.slice none 0 0) (([] : List Int)) :: l) rfl rfl ?_
          refine W.e rfl rfl rfl rfl (by decide) (Ef.apI (pos := 7) (enc := encI) (xs := l33) (ys := ([r100.1] : List Int)) (fun _ => rfl) IF27 rfl rfl Try.underlying24 rfl (by decide) (.t rfl) (.t rfl) (Src.own (pos := 0) rfl) (fun _ => rfl) (by omega) (by omega)) ?_ (hJ := fun _ _ _ h => absurd (show false = true from h) (by decide))
          rintro v114 _ rfl
          refine ⟨.inl rfl, ?_⟩
          refine W.cast (m' := m) (l' := hownT 27 1 encI v112 _ :: hcells b15 [_] 62 :: hown 66 1 v109 _ _ :: hrows 35 1 encU _ _ :: hcells b98 [_, _, _, _, _, _] 46 :: hcells b23 [_, _, _] 26 :: hownT 68 3 Edge.enc (.slice none 0 0) (([] : List Edge)) :: hownT 27 1 encI v114 _ :: hcells b3 [_, _, _] 26 :: hownT 68 3 Edge.enc (.slice none 0 0) (([] : List Edge)) :: hownT 27 1 encI (.slice none 0 0) (([] : List Int)) :: l) rfl rfl ?_
          refine W.q rfl rfl rfl rfl (by decide) (Yd.fldB rfl Try.underlying26 rfl SZ24 rfl (.t rfl)) ?_
          refine W.s rfl rfl rfl rfl (Ef.stBo (pos := 5) (pos2 := 7) (cs' := [_, _, _]) rfl rfl rfl (.t rfl) (.t rfl) SZ24 (Nat.le_of_ble_eq_true rfl) rfl) ?_ (hJ := fun _ _ _ h => absurd (show false = true from h) (by decide))
          rintro _ _ ⟨rfl, rfl⟩
          refine ⟨.inl rfl, ?_⟩
          refine W.cast (m' := m) (l' := hownT 27 1 encI v112 _ :: hcells b15 [_] 62 :: hown 66 1 v109 _ _ :: hrows 35 1 encU _ _ :: hcells b98 [_, _, _, _, _, _] 46 :: hcells b23 [_, _, _] 26 :: hownT 68 3 Edge.enc (.slice none 0 0) (([] : List Edge)) :: hownT 27 1 encI v114 _ :: hcells b3 [_, _, _] 26 :: hownT 68 3 Edge.enc (.slice none 0 0) (([] : List Edge)) :: hownT 27 1 encI (.slice none 0 0) (([] : List Int)) :: l) rfl rfl ?_
          refine W.end ?_
          refine NX.sub (env' := [(6, _), (8, _), (10, _), (31, _), (32, _), (33, _)]) ⟨rfl, rfl, rfl, rfl, rfl, rfl, trivial⟩ ?_
          refine NX.drop (l' := hcells b15 [_] 62 :: hown 66 1 v109 _ _ :: hrows 35 1 encU _ _ :: hcells b23 [_, _, _] 26 :: hownT 68 3 Edge.enc (.slice none 0 0) (([] : List Edge)) :: hownT 27 1 encI v114 _ :: hcells b3 [_, _, _] 26 :: hownT 68 3 Edge.enc (.slice none 0 0) (([] : List Edge)) :: hownT 27 1 encI (.slice none 0 0) (([] : List Int)) :: l) (.cons _ (.cons_cons _ (.cons_cons _ (.cons_cons _ (.cons _ (.cons_cons _ (.cons_cons _ (.cons_cons _ (.cons_cons _ (.cons_cons _ (.cons_cons _ (.refl _)))))))))))) ?_
          refine NX.block ?_
          refine NX.then ?_
          refine Tr.region_f (fun _ => false) ?_
          refine W.q rfl rfl rfl rfl (by decide) (Yd.add rfl (.t rfl) .c) ?_
          refine W.q rfl rfl rfl rfl (by decide) (Yd.mv rfl (.t rfl)) ?_
          refine W.end ?_
          refine NX.sub (env' := [(6, _), (8, _), (10, _), (31, _), (32, _), (33, _)]) ⟨rfl, rfl, rfl, rfl, rfl, rfl, trivial⟩ ?_
          refine NX.sub (env' := [(6, _), (8, _), (10, _), (31, _), (32, _), (33, _)]) ⟨rfl, rfl, rfl, rfl, rfl, rfl, trivial⟩ ?_
          refine NX.imp (fun w hw => cX_front (p := 8) hw rfl) ?_
          refine NX.imp (fun w hw => cX_front (p := 8) hw rfl) ?_
          refine NX.imp (fun w hw => cX_front (p := 8) hw rfl) ?_
          refine NX.imp (fun w hw => cX_front (p := 5) hw rfl) ?_
          refine NX.imp (fun w hw => cX_front (p := 5) hw rfl) ?_
          refine NX.imp (fun w hw => cX_front (p := 5) hw rfl) ?_
          refine NX.imp (fun w hw => cX_front (p := 8) hw rfl) ?_
          refine NX.imp (fun w hw => cX_front (p := 8) hw rfl) ?_
          refine NX.imp (fun w hw => cX_front (p := 8) hw rfl) ?_
          refine NX.cast (m' := m) (l' := hcells b23 [_, _, _] 26 :: hownT 68 3 Edge.enc (.slice none 0 0) (([] : List Edge)) :: hownT 27 1 encI v114 _ :: hcells b15 [_] 62 :: hown 66 1 v109 _ _ :: hrows 35 1 encU _ _ :: hcells b3 [_, _, _] 26 :: hownT 68 3 Edge.enc (.slice none 0 0) (([] : List Edge)) :: hownT 27 1 encI (.slice none 0 0) (([] : List Int)) :: l) rfl rfl ?_
          have hw := w64_id (n := t_92 + 1) (by omega) (by omega)
          exact NX.again n95 (t_92 + 1, (l33 ++ ([r100.1] : List Int)), r100.2) (Nat.lt_succ_self _) ⟨_, _, _, hw111, (by rw [hw] <;> rfl), rfl, (fr_dec hnt_92), (by omega), ((hnx94 _).symm.trans hr)⟩

def syllogistref_EdgesCheck_k3 : Option (Int) :=
  some ((0 : Int))

def syllogistref_EdgesCheck_b7 (n_0 : Int) (edges_1 : List Edge) (t_6 : Int) (nx8 : Unit → Option (Int)) : Option (Int) :=
  (geti edges_1 t_6).bind fun y10 =>
  (bif (((((decide (y10.src < (0 : Int))) || (decide (y10.src ≥ n_0))) || (decide (y10.to < (0 : Int)))) || (decide (y10.to ≥ n_0))) || (y10.src == y10.to)) then
  some ((2 : Int))
  else
  nx8 ())

def syllogistref_EdgesCheck (n_0 : Int) (edges_1 : List Edge) : Option (Int) :=
  (bif (((decide (n_0 < (1 : Int))) || (decide (n_0 > (6 : Int)))) || (decide ((edges_1.length : Int) > (20 : Int)))) then
  some ((1 : Int))
  else
  forK (σ := Unit) (fun i s nx_ => syllogistref_EdgesCheck_b7 n_0 edges_1 i nx_) (fun _ => syllogistref_EdgesCheck_k3) ((edges_1.length : Int) - (0 : Int)).toNat (0 : Int) ())

set_option maxRecDepth 100000 in
set_option maxHeartbeats 4000000 in
theorem syllogistref_EdgesCheck_ok (w0 : World) (m : Snap) (l : List HI) (n_0 : Int) (uedges_1 : Value) (edges_1 : List Edge) (hedges_1 : RS rEdge m uedges_1 edges_1) (r : Int) (hr : syllogistref_EdgesCheck n_0 edges_1 = some r) (w : World) (hc : cX w0 ⟨m, l⟩ w) :
    Calls Try.prog 8 [.int .i64 n_0, uedges_1].toArray w fun e w' => e = .returned (.int .i64 r) ∧ cX w0 ⟨m, l⟩ w' := by
  unfold syllogistref_EdgesCheck at hr
  refine calls_of_Tr (N := 52) Try.func8 rfl hc rfl (Nat.le_of_ble_eq_true rfl) ?_
  refine Tr.seq ?_
  refine Tr.region_f (fun _ => false) ?_
  refine W.q rfl rfl rfl rfl (by decide) (Yd.as rfl .c) ?_
  refine W.end ?_
  refine NX.sub (env' := [(0, _), (1, _)]) ⟨rfl, rfl, trivial⟩ ?_
  refine NX.then ?_
  refine Tr.seq ?_
  refine Tr.seq ?_
  refine Tr.region_f (fun _ => false) ?_
  refine W.q rfl rfl rfl rfl (by decide) (Yd.mv rfl (.t rfl)) ?_
  refine W.q rfl rfl rfl rfl (by decide) (Yd.lss rfl (.t rfl) .c) ?_
  refine W.q rfl rfl rfl rfl (by decide) (Yd.mv rfl (.t rfl)) ?_
  refine W.g rfl rfl rfl rfl rfl (.t rfl _) rfl (by decide) (fun hG => Yd.mv rfl (.t rfl)) ?_
  refine W.g rfl rfl rfl rfl rfl (.t rfl _) rfl (by decide) (fun hG => Yd.gtr rfl (.g rfl hG) .c) ?_
  refine W.q rfl rfl rfl rfl (by decide) (Yd.or rfl (.t rfl) .c rfl rfl) ?_
  refine W.q rfl rfl rfl rfl (by decide) (Yd.mv rfl (.t rfl)) ?_
  refine W.g rfl rfl rfl rfl rfl (.t rfl _) rfl (by decide) (fun hG => Yd.mv rfl (.t rfl)) ?_
  refine W.g rfl rfl rfl rfl rfl (.t rfl _) rfl (by decide) (fun hG => Yd.lenR hedges_1 rfl Try.underlying22 (.g rfl hG)) ?_
  refine W.g rfl rfl rfl rfl rfl (.t rfl _) rfl (by decide) (fun hG => Yd.gtr rfl (.g rfl hG) .c) ?_
  refine W.q rfl rfl rfl rfl (by decide) (Yd.or rfl (.t rfl) .c rfl rfl) ?_
  refine W.end ?_
  refine NX.sub (env' := [(0, _), (1, _), (17, _)]) ⟨rfl, rfl, rfl, trivial⟩ ?_
  refine NX.then ?_
  refine Tr.cond (.t rfl) (fun hb => ?_) (fun hb => ?_)
  · have hr := cond_t hb hr
    refine Tr.seq ?_
    refine Tr.region_f (fun _ => false) ?_
    refine W.q rfl rfl rfl rfl (by decide) (Yd.as rfl .c) ?_
    refine W.end ?_
    refine NX.sub (env' := [(4, _)]) ⟨rfl, trivial⟩ ?_
    refine NX.then ?_
    refine Tr.ret' (RT.then ?_)
    refine res1 rfl rfl ?_
    intro w hc
    cases hr
    exact ⟨rfl, hc⟩
  · have hr := cond_f hb hr
    refine Tr.skip' ?_
    refine NX.then ?_
    refine Tr.seq ?_
    refine Tr.seq ?_
    refine Tr.region_f (fun _ => false) ?_
    refine W.q rfl rfl rfl rfl (by decide) (Yd.mv rfl (.t rfl)) ?_
    refine W.q rfl rfl rfl rfl (by decide) (Yd.lenR hedges_1 rfl Try.underlying22 (.t rfl)) ?_
    refine W.q rfl rfl rfl rfl (by decide) (Yd.mv rfl .c) ?_
    refine W.end ?_
    refine NX.sub (env' := [(0, _), (18, _), (19, _), (20, _)]) ⟨rfl, rfl, rfl, rfl, trivial⟩ ?_
    refine NX.then ?_
    refine Tr.join (S := fun env x => env = [] ∧ x = ⟨m, l⟩ ∧ syllogistref_EdgesCheck_k3 = some r) ?_ (fun hk4 => ?_)
    · rintro _ _ ⟨rfl, rfl, hr⟩
      unfold syllogistref_EdgesCheck_k3 at hr
      try dsimp only at hr
      refine NX.then ?_
      refine Tr.seq ?_
      refine Tr.region_f (fun _ => false) ?_
      refine W.q rfl rfl rfl rfl (by decide) (Yd.as rfl .c) ?_
      refine W.end ?_
      refine NX.sub (env' := [(4, _)]) ⟨rfl, trivial⟩ ?_
      refine NX.then ?_
      refine Tr.ret' ?_
      refine res1 rfl rfl ?_
      intro w hc
      cases hr
      exact ⟨rfl, hc⟩
    have hlen5 := (hedges_1).2.1
    refine Tr.block ?_
    refine Tr.sub (env' := [(0, _), (18, _), (19, _), (20, _)]) ⟨rfl, rfl, rfl, rfl, trivial⟩ ?_
    refine Tr.loop (S := fun n (z : Int × Unit) env x => match z with | (t_6, _) => env = [(0, .int .i64 n_0), (18, uedges_1), (19, .int .i64 ((edges_1.length : Int))), (20, .int .i64 t_6)] ∧ x = ⟨m, l⟩ ∧ n = ((edges_1.length : Int) - t_6).toNat ∧ 0 ≤ t_6 ∧ forK (σ := Unit) (fun i s nx_ => syllogistref_EdgesCheck_b7 n_0 edges_1 i nx_) (fun _ => syllogistref_EdgesCheck_k3) n t_6 () = some r) _ ((0 : Int), ()) ⟨rfl, rfl, rfl, (by omega), hr⟩ ?_
    rintro n9 ⟨t_6, _⟩ env x ⟨rfl, rfl, hnt_6, h0t_6, hr⟩
    cases n9 with
    | zero =>
      simp only [forK] at hr
      refine Tr.seq ?_
      refine Tr.region_f (fun _ => false) ?_
      refine W.q rfl rfl rfl rfl (by decide) (Yd.lss rfl (.t rfl) (.t rfl)) ?_
      refine W.end ?_
      refine NX.sub (env' := [(0, _), (18, _), (19, _), (20, _), (21, _)]) ⟨rfl, rfl, rfl, rfl, rfl, trivial⟩ ?_
      refine NX.then ?_
      refine Tr.seq ?_
      refine Tr.cond (.t rfl) (fun hb => ?_) (fun hb => ?_)
      · exact absurd (hb.symm.trans (fr_end hnt_6)) (by decide)
      ·
        refine Tr.exit' (EX.then (EX.then (EX.block ?_)))
        refine NX.sub (env' := []) trivial ?_
        exact hk4 _ _ ⟨rfl, rfl, hr⟩
    | succ n9 =>
      obtain ⟨nx8, hnx8, hr⟩ := forK_succ hr
      try dsimp only at hr
      unfold syllogistref_EdgesCheck_b7 at hr
      try dsimp only at hr
      have hltt_6 := fr_bnd hnt_6
      refine Tr.seq ?_
      refine Tr.region_f (fun _ => false) ?_
      refine W.q rfl rfl rfl rfl (by decide) (Yd.lss rfl (.t rfl) (.t rfl)) ?_
      refine W.end ?_
      refine NX.sub (env' := [(0, _), (18, _), (19, _), (20, _), (21, _)]) ⟨rfl, rfl, rfl, rfl, rfl, trivial⟩ ?_
      refine NX.then ?_
      refine Tr.seq ?_
      refine Tr.cond (.t rfl) (fun hb => ?_) (fun hb => ?_)
      rotate_left
      · exact absurd (hb.symm.trans (fr_go hnt_6)) (by decide)
      ·
        refine Tr.skip' ?_
        refine NX.then ?_
        refine Tr.seq ?_
        refine Tr.block ?_
        refine Tr.seq ?_
        obtain ⟨y10, hy11, hr⟩ := bind_some hr
        refine Tr.region_f (fun i => Nat.beq i 2 || Nat.beq i 3) ?_
        refine W.q rfl rfl rfl rfl (by decide) (Yd.idxR hedges_1 hy11 rfl Try.underlying22 SZ68 (.t rfl) (.t rfl)) ?_
        refine W.q rfl rfl rfl rfl (by decide) (Yd.ldFs (us := [_, _, _]) hedges_1 (.refl _) hy11 rfl rfl ON68 US68 SZ68 (.t rfl)) ?_
        refine W.e rfl rfl rfl rfl (by decide) (Ef.al rfl ZR68 rfl) ?_
        rintro _ _ ⟨b12, rfl, rfl⟩
        refine ⟨.inl rfl, ?_⟩
        refine W.cast (m' := m) (l' := hcells b12 [_, _, _] 68 :: l) rfl rfl ?_
        refine W.s rfl rfl rfl rfl (Ef.stB (pos := 0) (us := [_, _, _]) (cs' := [_, _, _]) rfl rfl (.t rfl) (.t rfl) SZ68 rfl rfl rfl (Nat.le_of_ble_eq_true rfl) rfl) ?_
        rintro _ _ ⟨rfl, rfl⟩
        refine ⟨.inl rfl, ?_⟩
        refine W.cast (m' := m) (l' := hcells b12 [_, _, _] 68 :: l) rfl rfl ?_
        refine W.end ?_
        refine NX.sub (env' := [(0, _), (18, _), (19, _), (20, _), (6, _)]) ⟨rfl, rfl, rfl, rfl, rfl, trivial⟩ ?_
        refine NX.then ?_
        refine Tr.seq ?_
        refine Tr.region_f (fun _ => false) ?_
        refine W.q rfl rfl rfl rfl (by decide) (Yd.fldB rfl Try.underlying68 rfl SZ3 rfl (.t rfl)) ?_
        refine W.q rfl rfl rfl rfl (by decide) (Yd.ldB (pos := 0) rfl rfl rfl ON3 (.t rfl)) ?_
        refine W.q rfl rfl rfl rfl (by decide) (Yd.lss rfl (.t rfl) .c) ?_
        refine W.q rfl rfl rfl rfl (by decide) (Yd.mv rfl (.t rfl)) ?_
        refine W.g rfl rfl rfl rfl rfl (.t rfl _) rfl (by decide) (fun hG => Yd.fldB rfl Try.underlying68 rfl SZ3 rfl (.t rfl)) ?_
        refine W.g rfl rfl rfl rfl rfl (.t rfl _) rfl (by decide) (fun hG => Yd.ldB (pos := 0) rfl rfl rfl ON3 (.g rfl hG)) ?_
        refine W.g rfl rfl rfl rfl rfl (.t rfl _) rfl (by decide) (fun hG => Yd.mv rfl (.t rfl)) ?_
        refine W.g rfl rfl rfl rfl rfl (.t rfl _) rfl (by decide) (fun hG => Yd.geq rfl (.g rfl hG) (.g rfl hG)) ?_
        refine W.q rfl rfl rfl rfl (by decide) (Yd.or rfl (.t rfl) .c rfl rfl) ?_
        refine W.q rfl rfl rfl rfl (by decide) (Yd.mv rfl (.t rfl)) ?_
        refine W.g rfl rfl rfl rfl rfl (.t rfl _) rfl (by decide) (fun hG => Yd.fldB rfl Try.underlying68 rfl SZ3 rfl (.t rfl)) ?_
        refine W.g rfl rfl rfl rfl rfl (.t rfl _) rfl (by decide) (fun hG => Yd.ldB (pos := 0) rfl rfl rfl ON3 (.g rfl hG)) ?_
        refine W.g rfl rfl rfl rfl rfl (.t rfl _) rfl (by decide) (fun hG => Yd.lss rfl (.g rfl hG) .c) ?_
        refine W.q rfl rfl rfl rfl (by decide) (Yd.or rfl (.t rfl) .c rfl rfl) ?_
        refine W.q rfl rfl rfl rfl (by decide) (Yd.mv rfl (.t rfl)) ?_
        refine W.g rfl rfl rfl rfl rfl (.t rfl _) rfl (by decide) (fun hG => Yd.fldB rfl Try.underlying68 rfl SZ3 rfl (.t rfl)) ?_
        refine W.g rfl rfl rfl rfl rfl (.t rfl _) rfl (by decide) (fun hG => Yd.ldB (pos := 0) rfl rfl rfl ON3 (.g rfl hG)) ?_
        refine W.g rfl rfl rfl rfl rfl (.t rfl _) rfl (by decide) (fun hG => Yd.mv rfl (.t rfl)) ?_
        refine W.g rfl rfl rfl rfl rfl (.t rfl _) rfl (by decide) (fun hG => Yd.geq rfl (.g rfl hG) (.g rfl hG)) ?_
        refine W.q rfl rfl rfl rfl (by decide) (Yd.or rfl (.t rfl) .c rfl rfl) ?_
        refine W.q rfl rfl rfl rfl (by decide) (Yd.mv rfl (.t rfl)) ?_
        refine W.g rfl rfl rfl rfl rfl (.t rfl _) rfl (by decide) (fun hG => Yd.fldB rfl Try.underlying68 rfl SZ3 rfl (.t rfl)) ?_
        refine W.g rfl rfl rfl rfl rfl (.t rfl _) rfl (by decide) (fun hG => Yd.ldB (pos := 0) rfl rfl rfl ON3 (.g rfl hG)) ?_
        refine W.g rfl rfl rfl rfl rfl (.t rfl _) rfl (by decide) (fun hG => Yd.fldB rfl Try.underlying68 rfl SZ3 rfl (.t rfl)) ?_
        refine W.g rfl rfl rfl rfl rfl (.t rfl _) rfl (by decide) (fun hG => Yd.ldB (pos := 0) rfl rfl rfl ON3 (.g rfl hG)) ?_
        refine W.g rfl rfl rfl rfl rfl (.t rfl _) rfl (by decide) (fun hG => Yd.eql rfl (.g rfl hG) (.g rfl hG)) ?_
        refine W.q rfl rfl rfl rfl (by decide) (Yd.or rfl (.t rfl) .c rfl rfl) ?_
        refine W.end ?_
        refine NX.sub (env' := [(0, _), (18, _), (19, _), (20, _), (50, _)]) ⟨rfl, rfl, rfl, rfl, rfl, trivial⟩ ?_
        refine NX.drop (l' := l) (.cons _ (.refl _)) ?_
        refine NX.then ?_
        refine Tr.cond (.t rfl) (fun hb => ?_) (fun hb => ?_)
        · have hr := cond_t hb hr
          refine Tr.seq ?_
          refine Tr.region_f (fun _ => false) ?_
          refine W.q rfl rfl rfl rfl (by decide) (Yd.as rfl .c) ?_
          refine W.end ?_
          refine NX.sub (env' := [(4, _)]) ⟨rfl, trivial⟩ ?_
          refine NX.then ?_
          refine Tr.ret' (RT.block (RT.then (RT.then (RT.block (RT.then ?_)))))
          refine res1 rfl rfl ?_
          intro w hc
          cases hr
          exact ⟨rfl, hc⟩
        · have hr := cond_f hb hr
          refine Tr.skip' ?_
          refine NX.block ?_
          refine NX.then ?_
          refine Tr.region_f (fun _ => false) ?_
          refine W.q rfl rfl rfl rfl (by decide) (Yd.add rfl (.t rfl) .c) ?_
          refine W.q rfl rfl rfl rfl (by decide) (Yd.mv rfl (.t rfl)) ?_
          refine W.end ?_
          refine NX.sub (env' := [(0, _), (18, _), (19, _), (20, _)]) ⟨rfl, rfl, rfl, rfl, trivial⟩ ?_
          refine NX.sub (env' := [(0, _), (18, _), (19, _), (20, _)]) ⟨rfl, rfl, rfl, rfl, trivial⟩ ?_
          have hw := w64_id (n := t_6 + 1) (by omega) (by omega)
          exact NX.again n9 (t_6 + 1, ()) (Nat.lt_succ_self _) ⟨(by rw [hw] <;> rfl), rfl, (fr_dec hnt_6), (by omega), ((hnx8 _).symm.trans hr)⟩

def syllogistref_Grant_c1 (i_0 : Int) (cp_0 : Int) : Option (Bool) :=
  some (((decide (i_0 ≥ (0 : Int))) && (decide (i_0 < cp_0))))

set_option maxRecDepth 100000 in
set_option maxHeartbeats 4000000 in
theorem syllogistref_Grant_c1_ok (w0 : World) (m : Snap) (l : List HI) (i_0 : Int) (fp0 fb0 : Nat) (cp_0 : Int) (hfp0 : l[fp0]? = some (hcells fb0 [.int .i64 cp_0] 3)) (r : Bool) (hr : syllogistref_Grant_c1 i_0 cp_0 = some r) (w : World) (hc : cX w0 ⟨m, l⟩ w) :
    Calls Try.prog 24 [.int .i64 i_0, bp fb0 0].toArray w fun e w' => e = .returned (.bool r) ∧ cX w0 ⟨m, l⟩ w' := by
  unfold syllogistref_Grant_c1 at hr
  refine calls_of_Tr (N := 11) Try.func24 rfl hc rfl (Nat.le_of_ble_eq_true rfl) ?_
  refine Tr.seq ?_
  refine Tr.region_f (fun _ => false) ?_
  refine W.q rfl rfl rfl rfl (by decide) (Yd.as rfl .c) ?_
  refine W.end ?_
  refine NX.sub (env' := [(0, _), (1, _)]) ⟨rfl, rfl, trivial⟩ ?_
  refine NX.then ?_
  refine Tr.seq ?_
  refine Tr.region_f (fun _ => false) ?_
  refine W.q rfl rfl rfl rfl (by decide) (Yd.mv rfl (.t rfl)) ?_
  refine W.q rfl rfl rfl rfl (by decide) (Yd.geq rfl (.t rfl) .c) ?_
  refine W.q rfl rfl rfl rfl (by decide) (Yd.mv rfl (.t rfl)) ?_
  refine W.g rfl rfl rfl rfl rfl (.t rfl _) rfl (by decide) (fun hG => Yd.mv rfl (.t rfl)) ?_
  refine W.g rfl rfl rfl rfl rfl (.t rfl _) rfl (by decide) (fun hG => Yd.ldB (pos := fp0) hfp0 rfl rfl ON3 (.t rfl)) ?_
  refine W.g rfl rfl rfl rfl rfl (.t rfl _) rfl (by decide) (fun hG => Yd.lss rfl (.g rfl hG) (.g rfl hG)) ?_
  refine W.q rfl rfl rfl rfl (by decide) (Yd.and rfl (.t rfl) .c rfl rfl) ?_
  refine W.q rfl rfl rfl rfl (by decide) (Yd.as rfl (.t rfl)) ?_
  refine W.end ?_
  refine NX.sub (env' := [(3, _)]) ⟨rfl, trivial⟩ ?_
  refine NX.then ?_
  refine Tr.ret' ?_
  refine res1 rfl rfl ?_
  intro w hc
  cases hr
  exact ⟨rfl, hc⟩

def syllogistref_Over_k6 (r_5 : BitVec 32) : Option ((BitVec 32)) :=
  some r_5

def syllogistref_Over_b10 (edges_0 : List Edge) (a_1 : Int) (b_2 : Int) (t_9 : Int) (r_3 : BitVec 32) (nx11 : (BitVec 32) → Option ((BitVec 32))) : Option ((BitVec 32)) :=
  (geti edges_0 t_9).bind fun y13 =>
  (bif ((y13.src == a_1) && (y13.to == b_2)) then
  nx11 (r_3 ||| y13.rights)
  else
  nx11 r_3)

def syllogistref_Over (edges_0 : List Edge) (a_1 : Int) (b_2 : Int) : Option ((BitVec 32)) :=
  forK (σ := (BitVec 32)) (fun i s nx_ => syllogistref_Over_b10 edges_0 a_1 b_2 i s nx_) (fun s => syllogistref_Over_k6 s) ((edges_0.length : Int) - (0 : Int)).toNat (0 : Int) (0#32)

set_option maxRecDepth 100000 in
set_option maxHeartbeats 4000000 in
theorem syllogistref_Over_ok (w0 : World) (m : Snap) (l : List HI) (uedges_0 : Value) (edges_0 : List Edge) (hedges_0 : RS rEdge m uedges_0 edges_0) (a_1 : Int) (b_2 : Int) (r : (BitVec 32)) (hr : syllogistref_Over edges_0 a_1 b_2 = some r) (w : World) (hc : cX w0 ⟨m, l⟩ w) :
    Calls Try.prog 17 [uedges_0, .int .i64 a_1, .int .i64 b_2].toArray w fun e w' => e = .returned (.int .u32 (r.toNat : Int)) ∧ cX w0 ⟨m, l⟩ w' := by
  unfold syllogistref_Over at hr
  refine calls_of_Tr (N := 32) Try.func17 rfl hc rfl (Nat.le_of_ble_eq_true rfl) ?_
  refine Tr.seq ?_
  refine Tr.region_f (fun _ => false) ?_
  refine W.q rfl rfl rfl rfl (by decide) (Yd.as rfl .c) ?_
  refine W.end ?_
  refine NX.sub (env' := [(0, _), (1, _), (2, _)]) ⟨rfl, rfl, rfl, trivial⟩ ?_
  refine NX.then ?_
  refine Tr.seq ?_
  refine Tr.region_f (fun _ => false) ?_
  refine W.q rfl rfl rfl rfl (by decide) (Yd.as rfl .c) ?_
  refine W.end ?_
  refine NX.sub (env' := [(0, _), (1, _), (2, _), (7, _)]) ⟨rfl, rfl, rfl, rfl, trivial⟩ ?_
  refine NX.then ?_
  refine Tr.seq ?_
  refine Tr.seq ?_
  refine Tr.region_f (fun _ => false) ?_
  refine W.q rfl rfl rfl rfl (by decide) (Yd.mv rfl (.t rfl)) ?_
  refine W.q rfl rfl rfl rfl (by decide) (Yd.lenR hedges_0 rfl Try.underlying22 (.t rfl)) ?_
  refine W.q rfl rfl rfl rfl (by decide) (Yd.mv rfl .c) ?_
  refine W.end ?_
  refine NX.sub (env' := [(1, _), (2, _), (7, _), (10, _), (11, _), (12, _)]) ⟨rfl, rfl, rfl, rfl, rfl, rfl, trivial⟩ ?_
  refine NX.then ?_
  refine Tr.join (S := fun env x => ∃ r_5 : BitVec 32, env = [(7, .int .u32 (r_5.toNat : Int))] ∧ x = ⟨m, l⟩ ∧ syllogistref_Over_k6 r_5 = some r) ?_ (fun hk7 => ?_)
  · rintro _ _ ⟨r_5, rfl, rfl, hr⟩
    unfold syllogistref_Over_k6 at hr
    try dsimp only at hr
    refine NX.then ?_
    refine Tr.seq ?_
    refine Tr.region_f (fun _ => false) ?_
    refine W.q rfl rfl rfl rfl (by decide) (Yd.mv rfl (.t rfl)) ?_
    refine W.q rfl rfl rfl rfl (by decide) (Yd.as rfl (.t rfl)) ?_
    refine W.end ?_
    refine NX.sub (env' := [(6, _)]) ⟨rfl, trivial⟩ ?_
    refine NX.then ?_
    refine Tr.ret' ?_
    refine res1 rfl rfl ?_
    intro w hc
    cases hr
    exact ⟨rfl, hc⟩
  have hlen8 := (hedges_0).2.1
  refine Tr.block ?_
  refine Tr.sub (env' := [(1, _), (2, _), (7, _), (10, _), (11, _), (12, _)]) ⟨rfl, rfl, rfl, rfl, rfl, rfl, trivial⟩ ?_
  refine Tr.loop (S := fun n (z : Int × (BitVec 32)) env x => match z with | (t_9, r_3) => env = [(1, .int .i64 a_1), (2, .int .i64 b_2), (7, .int .u32 (r_3.toNat : Int)), (10, uedges_0), (11, .int .i64 ((edges_0.length : Int))), (12, .int .i64 t_9)] ∧ x = ⟨m, l⟩ ∧ n = ((edges_0.length : Int) - t_9).toNat ∧ 0 ≤ t_9 ∧ forK (σ := (BitVec 32)) (fun i s nx_ => syllogistref_Over_b10 edges_0 a_1 b_2 i s nx_) (fun s => syllogistref_Over_k6 s) n t_9 r_3 = some r) _ ((0 : Int), 0#32) ⟨rfl, rfl, rfl, (by omega), hr⟩ ?_
  rintro n12 ⟨t_9, r_3⟩ env x ⟨rfl, rfl, hnt_9, h0t_9, hr⟩
  cases n12 with
  | zero =>
    simp only [forK] at hr
    refine Tr.seq ?_
    refine Tr.region_f (fun _ => false) ?_
    refine W.q rfl rfl rfl rfl (by decide) (Yd.lss rfl (.t rfl) (.t rfl)) ?_
    refine W.end ?_
    refine NX.sub (env' := [(1, _), (2, _), (7, _), (10, _), (11, _), (12, _), (13, _)]) ⟨rfl, rfl, rfl, rfl, rfl, rfl, rfl, trivial⟩ ?_
    refine NX.then ?_
    refine Tr.seq ?_
    refine Tr.cond (.t rfl) (fun hb => ?_) (fun hb => ?_)
    · exact absurd (hb.symm.trans (fr_end hnt_9)) (by decide)
    ·
      refine Tr.exit' (EX.then (EX.then (EX.block ?_)))
      refine NX.sub (env' := [(7, _)]) ⟨rfl, trivial⟩ ?_
      exact hk7 _ _ ⟨_, rfl, rfl, hr⟩
  | succ n12 =>
    obtain ⟨nx11, hnx11, hr⟩ := forK_succ hr
    try dsimp only at hr
    unfold syllogistref_Over_b10 at hr
    try dsimp only at hr
    have hltt_9 := fr_bnd hnt_9
    refine Tr.seq ?_
    refine Tr.region_f (fun _ => false) ?_
    refine W.q rfl rfl rfl rfl (by decide) (Yd.lss rfl (.t rfl) (.t rfl)) ?_
    refine W.end ?_
    refine NX.sub (env' := [(1, _), (2, _), (7, _), (10, _), (11, _), (12, _), (13, _)]) ⟨rfl, rfl, rfl, rfl, rfl, rfl, rfl, trivial⟩ ?_
    refine NX.then ?_
    refine Tr.seq ?_
    refine Tr.cond (.t rfl) (fun hb => ?_) (fun hb => ?_)
    rotate_left
    · exact absurd (hb.symm.trans (fr_go hnt_9)) (by decide)
    ·
      refine Tr.skip' ?_
      refine NX.then ?_
      refine Tr.seq ?_
      refine Tr.block ?_
      refine Tr.seq ?_
      obtain ⟨y13, hy14, hr⟩ := bind_some hr
      refine Tr.region_f (fun i => Nat.beq i 2 || Nat.beq i 3) ?_
      refine W.q rfl rfl rfl rfl (by decide) (Yd.idxR hedges_0 hy14 rfl Try.underlying22 SZ68 (.t rfl) (.t rfl)) ?_
      refine W.q rfl rfl rfl rfl (by decide) (Yd.ldFs (us := [_, _, _]) hedges_0 (.refl _) hy14 rfl rfl ON68 US68 SZ68 (.t rfl)) ?_
      refine W.e rfl rfl rfl rfl (by decide) (Ef.al rfl ZR68 rfl) ?_
      rintro _ _ ⟨b15, rfl, rfl⟩
      refine ⟨.inl rfl, ?_⟩
      refine W.cast (m' := m) (l' := hcells b15 [_, _, _] 68 :: l) rfl rfl ?_
      refine W.s rfl rfl rfl rfl (Ef.stB (pos := 0) (us := [_, _, _]) (cs' := [_, _, _]) rfl rfl (.t rfl) (.t rfl) SZ68 rfl rfl rfl (Nat.le_of_ble_eq_true rfl) rfl) ?_
      rintro _ _ ⟨rfl, rfl⟩
      refine ⟨.inl rfl, ?_⟩
      refine W.cast (m' := m) (l' := hcells b15 [_, _, _] 68 :: l) rfl rfl ?_
      refine W.end ?_
      refine NX.sub (env' := [(1, _), (2, _), (7, _), (10, _), (11, _), (12, _), (9, _)]) ⟨rfl, rfl, rfl, rfl, rfl, rfl, rfl, trivial⟩ ?_
      refine NX.then ?_
      refine Tr.seq ?_
      refine Tr.region_f (fun _ => false) ?_
      refine W.q rfl rfl rfl rfl (by decide) (Yd.fldB rfl Try.underlying68 rfl SZ3 rfl (.t rfl)) ?_
      refine W.q rfl rfl rfl rfl (by decide) (Yd.ldB (pos := 0) rfl rfl rfl ON3 (.t rfl)) ?_
      refine W.q rfl rfl rfl rfl (by decide) (Yd.mv rfl (.t rfl)) ?_
      refine W.q rfl rfl rfl rfl (by decide) (Yd.eql rfl (.t rfl) (.t rfl)) ?_
      refine W.q rfl rfl rfl rfl (by decide) (Yd.mv rfl (.t rfl)) ?_
      refine W.g rfl rfl rfl rfl rfl (.t rfl _) rfl (by decide) (fun hG => Yd.fldB rfl Try.underlying68 rfl SZ3 rfl (.t rfl)) ?_
      refine W.g rfl rfl rfl rfl rfl (.t rfl _) rfl (by decide) (fun hG => Yd.ldB (pos := 0) rfl rfl rfl ON3 (.g rfl hG)) ?_
      refine W.g rfl rfl rfl rfl rfl (.t rfl _) rfl (by decide) (fun hG => Yd.mv rfl (.t rfl)) ?_
      refine W.g rfl rfl rfl rfl rfl (.t rfl _) rfl (by decide) (fun hG => Yd.eql rfl (.g rfl hG) (.g rfl hG)) ?_
      refine W.q rfl rfl rfl rfl (by decide) (Yd.and rfl (.t rfl) .c rfl rfl) ?_
      refine W.end ?_
      refine NX.sub (env' := [(1, _), (2, _), (7, _), (10, _), (11, _), (12, _), (9, _), (25, _)]) ⟨rfl, rfl, rfl, rfl, rfl, rfl, rfl, rfl, trivial⟩ ?_
      refine NX.then ?_
      refine Tr.cond (.t rfl) (fun hb => ?_) (fun hb => ?_)
      · have hr := cond_t hb hr
        refine Tr.region_f (fun _ => false) ?_
        refine W.q rfl rfl rfl rfl (by decide) (Yd.mv rfl (.t rfl)) ?_
        refine W.q rfl rfl rfl rfl (by decide) (Yd.fldB rfl Try.underlying68 rfl SZ35 rfl (.t rfl)) ?_
        refine W.q rfl rfl rfl rfl (by decide) (Yd.ldB (pos := 0) rfl rfl rfl ON35 (.t rfl)) ?_
        refine W.q rfl rfl rfl rfl (by decide) (Yd.orU (a := r_3) (b := y13.rights) rfl (.t rfl) (.t rfl)) ?_
        refine W.q rfl rfl rfl rfl (by decide) (Yd.as rfl (.t rfl)) ?_
        refine W.end ?_
        refine NX.sub (env' := [(1, _), (2, _), (7, _), (10, _), (11, _), (12, _)]) ⟨rfl, rfl, rfl, rfl, rfl, rfl, trivial⟩ ?_
        refine NX.drop (l' := l) (.cons _ (.refl _)) ?_
        refine NX.block ?_
        refine NX.then ?_
        refine Tr.region_f (fun _ => false) ?_
        refine W.q rfl rfl rfl rfl (by decide) (Yd.add rfl (.t rfl) .c) ?_
        refine W.q rfl rfl rfl rfl (by decide) (Yd.mv rfl (.t rfl)) ?_
        refine W.end ?_
        refine NX.sub (env' := [(1, _), (2, _), (7, _), (10, _), (11, _), (12, _)]) ⟨rfl, rfl, rfl, rfl, rfl, rfl, trivial⟩ ?_
        refine NX.sub (env' := [(1, _), (2, _), (7, _), (10, _), (11, _), (12, _)]) ⟨rfl, rfl, rfl, rfl, rfl, rfl, trivial⟩ ?_
        have hw := w64_id (n := t_9 + 1) (by omega) (by omega)
        exact NX.again n12 (t_9 + 1, (r_3 ||| y13.rights)) (Nat.lt_succ_self _) ⟨(by rw [hw] <;> rfl), rfl, (fr_dec hnt_9), (by omega), ((hnx11 _).symm.trans hr)⟩
      · have hr := cond_f hb hr
        refine Tr.skip' ?_
        refine NX.block ?_
        refine NX.then ?_
        refine Tr.region_f (fun _ => false) ?_
        refine W.q rfl rfl rfl rfl (by decide) (Yd.add rfl (.t rfl) .c) ?_
        refine W.q rfl rfl rfl rfl (by decide) (Yd.mv rfl (.t rfl)) ?_
        refine W.end ?_
        refine NX.sub (env' := [(1, _), (2, _), (7, _), (10, _), (11, _), (12, _)]) ⟨rfl, rfl, rfl, rfl, rfl, rfl, trivial⟩ ?_
        refine NX.drop (l' := l) (.cons _ (.refl _)) ?_
        refine NX.sub (env' := [(1, _), (2, _), (7, _), (10, _), (11, _), (12, _)]) ⟨rfl, rfl, rfl, rfl, rfl, rfl, trivial⟩ ?_
        have hw := w64_id (n := t_9 + 1) (by omega) (by omega)
        exact NX.again n12 (t_9 + 1, r_3) (Nat.lt_succ_self _) ⟨(by rw [hw] <;> rfl), rfl, (fr_dec hnt_9), (by omega), ((hnx11 _).symm.trans hr)⟩

def syllogistref_In (a_0 : (BitVec 32)) (b_1 : (BitVec 32)) : Option (Bool) :=
  some (((a_0 ||| b_1) == b_1))

set_option maxRecDepth 100000 in
set_option maxHeartbeats 4000000 in
theorem syllogistref_In_ok (w0 : World) (m : Snap) (l : List HI) (a_0 : (BitVec 32)) (b_1 : (BitVec 32)) (r : Bool) (hr : syllogistref_In a_0 b_1 = some r) (w : World) (hc : cX w0 ⟨m, l⟩ w) :
    Calls Try.prog 16 [.int .u32 (a_0.toNat : Int), .int .u32 (b_1.toNat : Int)].toArray w fun e w' => e = .returned (.bool r) ∧ cX w0 ⟨m, l⟩ w' := by
  unfold syllogistref_In at hr
  refine calls_of_Tr (N := 10) Try.func16 rfl hc rfl (Nat.le_of_ble_eq_true rfl) ?_
  refine Tr.seq ?_
  refine Tr.region_f (fun _ => false) ?_
  refine W.q rfl rfl rfl rfl (by decide) (Yd.as rfl .c) ?_
  refine W.end ?_
  refine NX.sub (env' := [(0, _), (1, _)]) ⟨rfl, rfl, trivial⟩ ?_
  refine NX.then ?_
  refine Tr.seq ?_
  refine Tr.region_f (fun _ => false) ?_
  refine W.q rfl rfl rfl rfl (by decide) (Yd.mv rfl (.t rfl)) ?_
  refine W.q rfl rfl rfl rfl (by decide) (Yd.mv rfl (.t rfl)) ?_
  refine W.q rfl rfl rfl rfl (by decide) (Yd.orU (a := a_0) (b := b_1) rfl (.t rfl) (.t rfl)) ?_
  refine W.q rfl rfl rfl rfl (by decide) (Yd.mv rfl (.t rfl)) ?_
  refine W.q rfl rfl rfl rfl (by decide) (Yd.eqlU (a := (a_0 ||| b_1)) (b := b_1) rfl (.t rfl) (.t rfl)) ?_
  refine W.q rfl rfl rfl rfl (by decide) (Yd.as rfl (.t rfl)) ?_
  refine W.end ?_
  refine NX.sub (env' := [(4, _)]) ⟨rfl, trivial⟩ ?_
  refine NX.then ?_
  refine Tr.ret' ?_
  refine res1 rfl rfl ?_
  intro w hc
  cases hr
  exact ⟨rfl, hc⟩
end Go.Proofs.Ytafaimklnnpkiaa.Sy
