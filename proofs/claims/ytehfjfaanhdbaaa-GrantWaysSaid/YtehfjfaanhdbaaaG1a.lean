/- Functions of the program as plain functions, and that the translation computes them; the conditions stand in each theorem. Printed by an own program. -/
import Derived.Test.YtehfjfaanhdbaaaSyZ
import Derived.Test.YtehfjfaanhdbaaaSyQu
import Derived.Test.YtehfjfaanhdbaaaT
import Derived.Test.YtehfjfaanhdbaaaProg
namespace Go.Proofs.Ytehfjfaanhdbaaa.Sy
open Go
set_option linter.unusedVariables false
theorem IF38 : (Try.prog.info? 38).map (fun i => (i.zero, i.size, i.bytes)) = some (some (.slice none 0 0), 1, 24) := by kernel_rfl
theorem IF33 : (Try.prog.info? 33).map (fun i => (i.zero, i.size, i.bytes)) = some (some (.int .u32 0), 1, 4) := by kernel_rfl
theorem SZ38 : (Try.prog.info? 38).map (·.size) = some 1 := by kernel_rfl
theorem SZ100 : (Try.prog.info? 100).map (·.size) = some 3 := by kernel_rfl
theorem ON100 : one Try.prog 100 = false := by kernel_rfl
theorem US100 : (Try.prog.underlying 100).isSome = true := by kernel_rfl
theorem ZR100 : (Try.prog.info? 100).bind (·.zero) = some (.agg #[.int .i64 0, .int .i64 0, .int .u32 0]) := by kernel_rfl
theorem SZ3 : (Try.prog.info? 3).map (·.size) = some 1 := by kernel_rfl
theorem ON3 : one Try.prog 3 = true := by kernel_rfl
theorem ON38 : one Try.prog 38 = true := by kernel_rfl
theorem SZ33 : (Try.prog.info? 33).map (·.size) = some 1 := by kernel_rfl
theorem ON33 : one Try.prog 33 = true := by kernel_rfl
def tbl1024256 : List (BitVec 8) := [0#8, 1#8, 1#8, 2#8, 1#8, 2#8, 2#8, 3#8, 1#8, 2#8, 2#8, 3#8, 2#8, 3#8, 3#8, 4#8, 1#8, 2#8, 2#8, 3#8, 2#8, 3#8, 3#8, 4#8, 2#8, 3#8, 3#8, 4#8, 3#8, 4#8, 4#8, 5#8, 1#8, 2#8, 2#8, 3#8, 2#8, 3#8, 3#8, 4#8, 2#8, 3#8, 3#8, 4#8, 3#8, 4#8, 4#8, 5#8, 2#8, 3#8, 3#8, 4#8, 3#8, 4#8, 4#8, 5#8, 3#8, 4#8, 4#8, 5#8, 4#8, 5#8, 5#8, 6#8, 1#8, 2#8, 2#8, 3#8, 2#8, 3#8, 3#8, 4#8, 2#8, 3#8, 3#8, 4#8, 3#8, 4#8, 4#8, 5#8, 2#8, 3#8, 3#8, 4#8, 3#8, 4#8, 4#8, 5#8, 3#8, 4#8, 4#8, 5#8, 4#8, 5#8, 5#8, 6#8, 2#8, 3#8, 3#8, 4#8, 3#8, 4#8, 4#8, 5#8, 3#8, 4#8, 4#8, 5#8, 4#8, 5#8, 5#8, 6#8, 3#8, 4#8, 4#8, 5#8, 4#8, 5#8, 5#8, 6#8, 4#8, 5#8, 5#8, 6#8, 5#8, 6#8, 6#8, 7#8, 1#8, 2#8, 2#8, 3#8, 2#8, 3#8, 3#8, 4#8, 2#8, 3#8, 3#8, 4#8, 3#8, 4#8, 4#8, 5#8, 2#8, 3#8, 3#8, 4#8, 3#8, 4#8, 4#8, 5#8, 3#8, 4#8, 4#8, 5#8, 4#8, 5#8, 5#8, 6#8, 2#8, 3#8, 3#8, 4#8, 3#8, 4#8, 4#8, 5#8, 3#8, 4#8, 4#8, 5#8, 4#8, 5#8, 5#8, 6#8, 3#8, 4#8, 4#8, 5#8, 4#8, 5#8, 5#8, 6#8, 4#8, 5#8, 5#8, 6#8, 5#8, 6#8, 6#8, 7#8, 2#8, 3#8, 3#8, 4#8, 3#8, 4#8, 4#8, 5#8, 3#8, 4#8, 4#8, 5#8, 4#8, 5#8, 5#8, 6#8, 3#8, 4#8, 4#8, 5#8, 4#8, 5#8, 5#8, 6#8, 4#8, 5#8, 5#8, 6#8, 5#8, 6#8, 6#8, 7#8, 3#8, 4#8, 4#8, 5#8, 4#8, 5#8, 5#8, 6#8, 4#8, 5#8, 5#8, 6#8, 5#8, 6#8, 6#8, 7#8, 4#8, 5#8, 5#8, 6#8, 5#8, 6#8, 6#8, 7#8, 5#8, 6#8, 6#8, 7#8, 6#8, 7#8, 7#8, 8#8]
theorem US5 : (Try.prog.underlying 5).isSome = true := by kernel_rfl
theorem US33 : (Try.prog.underlying 33).isSome = true := by kernel_rfl
theorem US146 : (Try.prog.underlying 146).isSome = true := by kernel_rfl
theorem US3 : (Try.prog.underlying 3).isSome = true := by kernel_rfl
theorem US139 : (Try.prog.underlying 139).isSome = true := by kernel_rfl
theorem IF3 : (Try.prog.info? 3).map (fun i => (i.zero, i.size, i.bytes)) = some (some (.int .i64 0), 1, 8) := by kernel_rfl
theorem IN3 : (Try.prog.info? 3).isSome = true := by kernel_rfl
structure T108 where
  graph : List (List (BitVec 32))
  n : Int
  l : List Deed
def P108 (m : Snap) (z : Value) : Option T108 → Prop
  | none => z = .pointer none
  | some x => ∃ (b : Nat) (u0 u2 : Value), z = bp b 0 ∧ Bk m b 108 [u0, .int .i64 x.n, u2] ∧ RS (Rp.slice rU) m u0 x.graph ∧ RS rDeed m u2 x.l
theorem P108.mono {m m' : Snap} {z : Value} {o : Option T108} (hm : Sle m m') (h : P108 m z o) : P108 m' z o := by
  cases o with
  | none => exact h
  | some x =>
    obtain ⟨b, u0, u2, hz, hb, h0, h2⟩ := h
    exact ⟨b, u0, u2, hz, hb.mono hm, h0.mono hm, h2.mono hm⟩
theorem SZ44 : (Try.prog.info? 44).map (·.size) = some 1 := by kernel_rfl
theorem ON44 : one Try.prog 44 = true := by kernel_rfl
theorem ZI62 : (Try.prog.info? 62).bind (·.zero) = some (.agg #[.int .i64 0, .int .u32 0]) := by kernel_rfl
theorem PL62 : plS Try.prog 62 = some [(0, 1), (1, 1)] := by kernel_rfl
theorem ZI64 : (Try.prog.info? 64).bind (·.zero) = some (.agg #[.int .i64 0, .int .i64 0, .int .i64 0, .int .i64 0, .int .u32 0, .int .i64 0]) := by kernel_rfl
theorem PL64 : plS Try.prog 64 = some [(0, 1), (1, 1), (2, 1), (3, 2), (5, 1)] := by kernel_rfl
theorem IF64 : (Try.prog.info? 64).map (fun i => (i.zero, i.size, i.bytes)) = some (some (.agg #[.int .i64 0, .int .i64 0, .int .i64 0, .int .i64 0, .int .u32 0, .int .i64 0]), 6, 48) := by kernel_rfl
theorem SZ95 : (Try.prog.info? 95).map (·.size) = some 1 := by kernel_rfl
theorem ON95 : one Try.prog 95 = true := by kernel_rfl
theorem ZI108 : (Try.prog.info? 108).bind (·.zero) = some (.agg #[.slice none 0 0, .int .i64 0, .slice none 0 0]) := by kernel_rfl
theorem PL108 : plS Try.prog 108 = some [(0, 1), (1, 1), (2, 1)] := by kernel_rfl
theorem ZR47 : (Try.prog.info? 47).bind (·.zero) = some (.agg #[.slice none 0 0, .int .i64 0, .slice none 0 0]) := by kernel_rfl
theorem ZI47 : (Try.prog.info? 47).bind (·.zero) = some (.agg #[.slice none 0 0, .int .i64 0, .slice none 0 0]) := by kernel_rfl
theorem PL47 : plS Try.prog 47 = some [(0, 1), (1, 1), (2, 1)] := by kernel_rfl
theorem SZ47 : (Try.prog.info? 47).map (·.size) = some 3 := by kernel_rfl
theorem IF100 : (Try.prog.info? 100).map (fun i => (i.zero, i.size, i.bytes)) = some (some (.agg #[.int .i64 0, .int .i64 0, .int .u32 0]), 3, 24) := by kernel_rfl
theorem SZ64 : (Try.prog.info? 64).map (·.size) = some 6 := by kernel_rfl
theorem ON64 : one Try.prog 64 = false := by kernel_rfl
theorem US64 : (Try.prog.underlying 64).isSome = true := by kernel_rfl
theorem ZR64 : (Try.prog.info? 64).bind (·.zero) = some (.agg #[.int .i64 0, .int .i64 0, .int .i64 0, .int .i64 0, .int .u32 0, .int .i64 0]) := by kernel_rfl
theorem SZ62 : (Try.prog.info? 62).map (·.size) = some 2 := by kernel_rfl
theorem ZI100 : (Try.prog.info? 100).bind (·.zero) = some (.agg #[.int .i64 0, .int .i64 0, .int .u32 0]) := by kernel_rfl
theorem PL100 : plS Try.prog 100 = some [(0, 1), (1, 1), (2, 1)] := by kernel_rfl
theorem SZ45 : (Try.prog.info? 45).map (·.size) = some 1 := by kernel_rfl
theorem ON45 : one Try.prog 45 = true := by kernel_rfl
theorem IF25 : (Try.prog.info? 25).map (fun i => (i.zero, i.size, i.bytes)) = some (some (.int .i64 0), 1, 8) := by kernel_rfl
theorem SZ43 : (Try.prog.info? 43).map (·.size) = some 1 := by kernel_rfl
theorem ON43 : one Try.prog 43 = true := by kernel_rfl
theorem ON47 : one Try.prog 47 = false := by kernel_rfl
theorem US47 : (Try.prog.underlying 47).isSome = true := by kernel_rfl
theorem FM : Try.prog.follows .mixedOrders = true := by kernel_rfl

def grant_build_k34 (l30 : List (List (BitVec 32))) : Option ((List (List (BitVec 32))) × Int) :=
  some ((l30, (0 : Int)))

def grant_build_b40 (n_0 : Int) (edges_1 : List Edge) (t_39 : Int) (l26 : List (List (BitVec 32))) (nx41 : (List (List (BitVec 32))) → Option ((List (List (BitVec 32))) × Int)) : Option ((List (List (BitVec 32))) × Int) :=
  (geti edges_1 t_39).bind fun y43 =>
  (bif (((decide ((if y43.to < y43.src then y43.to else y43.src) < (0 : Int))) || (decide ((if y43.to > y43.src then y43.to else y43.src) ≥ n_0))) || (y43.src == y43.to)) then
  some (([], (2 : Int)))
  else
  (geti l26 y43.src).bind fun y47 =>
  (geti y47 y43.to).bind fun y51 =>
  nx41 (l26.set y43.src.toNat (y47.set y43.to.toNat ((y51 ||| y43.rights)))))

def grant_build_k18 (n_0 : Int) (edges_1 : List Edge) (l14 : List (List (BitVec 32))) : Option ((List (List (BitVec 32))) × Int) :=
  forK (σ := (List (List (BitVec 32)))) (fun i s nx_ => grant_build_b40 n_0 edges_1 i s nx_) (fun s => grant_build_k34 s) ((edges_1.length : Int) - (0 : Int)).toNat (0 : Int) l14

def grant_build_b55 (t_54 : Int) (l10 : List (List (BitVec 32))) (nx56 : (List (List (BitVec 32))) → Option ((List (List (BitVec 32))) × Int)) : Option ((List (List (BitVec 32))) × Int) :=
  bif decide (0 ≤ (14 : Int) ∧ (14 : Int) ≤ 1048576) then
  (geti l10 t_54).bind fun y61 =>
  nx56 (l10.set t_54.toNat ((List.replicate ((14 : Int)).toNat (0#32)))) else none

def grant_build (n_0 : Int) (edges_1 : List Edge) : Option ((List (List (BitVec 32))) × Int) :=
  (bif (((decide (n_0 < (1 : Int))) || (decide (n_0 > (6 : Int)))) || (decide ((edges_1.length : Int) > (20 : Int)))) then
  some (([], (1 : Int)))
  else
  bif decide (0 ≤ n_0 ∧ n_0 ≤ 1048576) then
  forK (σ := (List (List (BitVec 32)))) (fun i s nx_ => grant_build_b55 i s nx_) (fun s => grant_build_k18 n_0 edges_1 s) ((((List.replicate n_0.toNat ([] : List (BitVec 32)))).length : Int) - (0 : Int)).toNat (0 : Int) ((List.replicate n_0.toNat ([] : List (BitVec 32)))) else none)

set_option maxRecDepth 100000 in
set_option maxHeartbeats 4000000 in
theorem grant_build_ok (w0 : World) (m : Snap) (l : List HI) (n_0 : Int) (uedges_1 : Value) (edges_1 : List Edge) (hedges_1 : RS rEdge m uedges_1 edges_1) (r : (List (List (BitVec 32))) × Int) (hr : grant_build n_0 edges_1 = some r) (w : World) (hc : cX w0 ⟨m, l⟩ w) :
    Calls Try.prog 46 [.int .i64 n_0, uedges_1].toArray w fun e w' => ∃ z0 : Value, ∃ m1 : Snap, e = .returned (.tuple #[z0, .int .i64 r.2]) ∧ Sle m m1 ∧ RS (Rp.slice rU) m1 z0 r.1 ∧ cX w0 ⟨m1, l⟩ w' := by
  unfold grant_build at hr
  refine calls_of_Tr (N := 76) Try.func46 rfl hc rfl (Nat.le_of_ble_eq_true rfl) ?_
  refine Tr.seq ?_
  refine Tr.region_f (fun _ => false) ?_
  refine W.q rfl rfl rfl rfl (by decide) (Yd.as rfl .c) ?_
  refine W.q rfl rfl rfl rfl (by decide) (Yd.as rfl .c) ?_
  refine W.end ?_
  refine NX.sub (env' := [(0, _), (1, _)]) ⟨rfl, rfl, trivial⟩ ?_
  refine NX.then ?_
  refine Tr.seq ?_
  refine Tr.seq ?_
  refine Tr.region_f (fun _ => false) ?_
  refine W.q rfl rfl rfl rfl (by decide) (Yd.mv rfl (.t rfl)) ?_
  refine W.q rfl rfl rfl rfl (by decide) (Yd.lss rfl (.t rfl) .c) ?_
  refine W.q rfl rfl rfl rfl (by decide) (Yd.mv rfl (.t rfl)) ?_
  refine W.g rfl rfl rfl rfl rfl (.t rfl _) rfl (by decide) (fun hG => Yd.mv rfl (.t rfl)) ?_
  refine W.g rfl rfl rfl rfl rfl (.t rfl _) rfl (by decide) (fun hG => Yd.gtr rfl (.g rfl hG) .c) ?_
  refine W.q rfl rfl rfl rfl (by decide) (Yd.or rfl (.t rfl) .c rfl rfl) ?_
  refine W.q rfl rfl rfl rfl (by decide) (Yd.mv rfl (.t rfl)) ?_
  refine W.g rfl rfl rfl rfl rfl (.t rfl _) rfl (by decide) (fun hG => Yd.mv rfl (.t rfl)) ?_
  refine W.g rfl rfl rfl rfl rfl (.t rfl _) rfl (by decide) (fun hG => Yd.lenR hedges_1 rfl Try.underlying43 (.g rfl hG)) ?_
  refine W.g rfl rfl rfl rfl rfl (.t rfl _) rfl (by decide) (fun hG => Yd.gtr rfl (.g rfl hG) .c) ?_
  refine W.q rfl rfl rfl rfl (by decide) (Yd.or rfl (.t rfl) .c rfl rfl) ?_
  refine W.end ?_
  refine NX.sub (env' := [(0, _), (1, _), (20, _)]) ⟨rfl, rfl, rfl, trivial⟩ ?_
  refine NX.then ?_
  refine Tr.cond (.t rfl) (fun hb => ?_) (fun hb => ?_)
  · have hr := cond_t hb hr
    refine Tr.seq ?_
    refine Tr.region_f (fun _ => false) ?_
    refine W.q rfl rfl rfl rfl (by decide) (Yd.as rfl .c) ?_
    refine W.q rfl rfl rfl rfl (by decide) (Yd.as rfl .c) ?_
    refine W.end ?_
    refine NX.sub (env' := [(4, _), (5, _)]) ⟨rfl, rfl, trivial⟩ ?_
    refine NX.then ?_
    refine Tr.ret' (RT.then ?_)
    refine res2 rfl rfl rfl ?_
    intro w hc
    cases hr
    exact ⟨_, _, rfl, (.refl _), (RS.nil _ _), hc⟩
  · have hr := cond_f hb hr
    refine Tr.skip' ?_
    refine NX.then ?_
    refine Tr.seq ?_
    obtain ⟨hq1, hr⟩ := guard_some hr; replace hq1 := of_decide_eq_true hq1
    refine Tr.region_f (fun i => Nat.beq i 1) ?_
    refine W.q rfl rfl rfl rfl (by decide) (Yd.mv rfl (.t rfl)) ?_
    refine W.e rfl rfl rfl rfl (by decide) (Ef.mkM 33 1 encU IF38 rfl rfl Try.underlying95 (.t rfl) (.t rfl) (by omega) (by omega) (by omega)) ?_
    rintro v2 _ rfl
    refine ⟨.inl rfl, ?_⟩
    refine W.cast (m' := m) (l' := hown 38 1 v2 _ _ :: hrows 33 1 encU _ _ :: l) rfl rfl ?_
    refine W.q rfl rfl rfl rfl (by decide) (Yd.as rfl (.t rfl)) ?_
    refine W.end ?_
    refine NX.sub (env' := [(0, _), (1, _), (6, _)]) ⟨rfl, rfl, rfl, trivial⟩ ?_
    refine NX.then ?_
    refine Tr.seq ?_
    refine Tr.seq ?_
    refine Tr.region_f (fun _ => false) ?_
    refine W.q rfl rfl rfl rfl (by decide) (Yd.mv rfl (.t rfl)) ?_
    refine W.q rfl rfl rfl rfl (by decide) (Yd.lenO (p := 0) rfl rfl Try.underlying95 (.t rfl)) ?_
    refine W.q rfl rfl rfl rfl (by decide) (Yd.mv rfl .c) ?_
    refine W.end ?_
    refine NX.sub (env' := [(0, _), (1, _), (6, _), (24, _), (25, _)]) ⟨rfl, rfl, rfl, rfl, rfl, trivial⟩ ?_
    refine NX.then ?_
    refine Tr.join (S := fun env x => ∃ l14 : List (List (BitVec 32)), ∃ v15 : Value, ∃ us16 : List Value, us16.length = l14.length ∧ env = [(0, .int .i64 n_0), (1, uedges_1), (6, v15)] ∧ x = ⟨m, hown 38 1 v15 l14.length us16 :: hrows 33 1 encU us16 l14 :: l⟩ ∧ grant_build_k18 n_0 edges_1 l14 = some r) ?_ (fun hk19 => ?_)
    · rintro _ _ ⟨l14, v15, us16, hw17, rfl, rfl, hr⟩
      unfold grant_build_k18 at hr
      try dsimp only at hr
      refine NX.then ?_
      refine Tr.seq ?_
      refine Tr.seq ?_
      refine Tr.region_f (fun _ => false) ?_
      refine W.q rfl rfl rfl rfl (by decide) (Yd.mv rfl (.t rfl)) ?_
      refine W.q rfl rfl rfl rfl (by decide) (Yd.lenR hedges_1 rfl Try.underlying43 (.t rfl)) ?_
      refine W.q rfl rfl rfl rfl (by decide) (Yd.mv rfl .c) ?_
      refine W.end ?_
      refine NX.sub (env' := [(0, _), (6, _), (33, _), (34, _), (35, _)]) ⟨rfl, rfl, rfl, rfl, rfl, trivial⟩ ?_
      refine NX.then ?_
      refine Tr.join (S := fun env x => ∃ l30 : List (List (BitVec 32)), ∃ v31 : Value, ∃ us32 : List Value, us32.length = l30.length ∧ env = [(6, v31)] ∧ x = ⟨m, hown 38 1 v31 l30.length us32 :: hrows 33 1 encU us32 l30 :: l⟩ ∧ grant_build_k34 l30 = some r) ?_ (fun hk35 => ?_)
      · rintro _ _ ⟨l30, v31, us32, hw33, rfl, rfl, hr⟩
        unfold grant_build_k34 at hr
        try dsimp only at hr
        refine NX.then ?_
        refine Tr.seq ?_
        refine Tr.region_f (fun _ => false) ?_
        refine W.q rfl rfl rfl rfl (by decide) (Yd.mv rfl (.t rfl)) ?_
        refine W.q rfl rfl rfl rfl (by decide) (Yd.as rfl (.t rfl)) ?_
        refine W.q rfl rfl rfl rfl (by decide) (Yd.as rfl .c) ?_
        refine W.end ?_
        refine NX.sub (env' := [(4, _), (5, _)]) ⟨rfl, rfl, trivial⟩ ?_
        refine NX.then ?_
        refine Tr.ret' ?_
        refine res2 rfl rfl rfl ?_
        intro w hc
        cases hr
        obtain ⟨m36, hsm36, hu37, hc⟩ := cX_freezeM (enc := encU) (n := 1) (p := 0) (p2 := 0) (fun _ => rfl) hc rfl rfl
        have hedges_1 := hedges_1.mono hsm36
        exact ⟨_, _, rfl, hsm36, hu37, hc⟩
      have hlen38 := (hedges_1).2.1
      refine Tr.block ?_
      refine Tr.sub (env' := [(0, _), (6, _), (33, _), (34, _), (35, _)]) ⟨rfl, rfl, rfl, rfl, rfl, trivial⟩ ?_
      refine Tr.loop (S := fun n (z : Int × (List (List (BitVec 32)))) env x => match z with | (t_39, l26) => ∃ v27 : Value, ∃ us28 : List Value, us28.length = l26.length ∧ env = [(0, .int .i64 n_0), (6, v27), (33, uedges_1), (34, .int .i64 ((edges_1.length : Int))), (35, .int .i64 t_39)] ∧ x = ⟨m, hown 38 1 v27 l26.length us28 :: hrows 33 1 encU us28 l26 :: l⟩ ∧ n = ((edges_1.length : Int) - t_39).toNat ∧ 0 ≤ t_39 ∧ forK (σ := (List (List (BitVec 32)))) (fun i s nx_ => grant_build_b40 n_0 edges_1 i s nx_) (fun s => grant_build_k34 s) n t_39 l26 = some r) _ ((0 : Int), l14) ⟨_, _, hw17, rfl, rfl, rfl, (by omega), hr⟩ ?_
      rintro n42 ⟨t_39, l26⟩ env x ⟨v27, us28, hw29, rfl, rfl, hnt_39, h0t_39, hr⟩
      cases n42 with
      | zero =>
        simp only [forK] at hr
        refine Tr.seq ?_
        refine Tr.region_f (fun _ => false) ?_
        refine W.q rfl rfl rfl rfl (by decide) (Yd.lss rfl (.t rfl) (.t rfl)) ?_
        refine W.end ?_
        refine NX.sub (env' := [(0, _), (6, _), (33, _), (34, _), (35, _), (36, _)]) ⟨rfl, rfl, rfl, rfl, rfl, rfl, trivial⟩ ?_
        refine NX.then ?_
        refine Tr.seq ?_
        refine Tr.cond (.t rfl) (fun hb => ?_) (fun hb => ?_)
        · exact absurd (hb.symm.trans (fr_end hnt_39)) (by decide)
        ·
          refine Tr.exit' (EX.then (EX.then (EX.block ?_)))
          refine NX.sub (env' := [(6, _)]) ⟨rfl, trivial⟩ ?_
          exact hk35 _ _ ⟨_, _, _, hw29, rfl, rfl, hr⟩
      | succ n42 =>
        obtain ⟨nx41, hnx41, hr⟩ := forK_succ hr
        try dsimp only at hr
        unfold grant_build_b40 at hr
        try dsimp only at hr
        have hltt_39 := fr_bnd hnt_39
        refine Tr.seq ?_
        refine Tr.region_f (fun _ => false) ?_
        refine W.q rfl rfl rfl rfl (by decide) (Yd.lss rfl (.t rfl) (.t rfl)) ?_
        refine W.end ?_
        refine NX.sub (env' := [(0, _), (6, _), (33, _), (34, _), (35, _), (36, _)]) ⟨rfl, rfl, rfl, rfl, rfl, rfl, trivial⟩ ?_
        refine NX.then ?_
        refine Tr.seq ?_
        refine Tr.cond (.t rfl) (fun hb => ?_) (fun hb => ?_)
        rotate_left
        · exact absurd (hb.symm.trans (fr_go hnt_39)) (by decide)
        ·
          refine Tr.skip' ?_
          refine NX.then ?_
          refine Tr.seq ?_
          refine Tr.block ?_
          refine Tr.seq ?_
          obtain ⟨y43, hy44, hr⟩ := bind_some hr
          refine Tr.region_f (fun i => Nat.beq i 2 || Nat.beq i 3) ?_
          refine W.q rfl rfl rfl rfl (by decide) (Yd.idxR hedges_1 hy44 rfl Try.underlying43 SZ100 (.t rfl) (.t rfl)) ?_
          refine W.q rfl rfl rfl rfl (by decide) (Yd.ldFs (us := [_, _, _]) hedges_1 (.refl _) hy44 rfl rfl ON100 US100 SZ100 (.t rfl)) ?_
          refine W.e rfl rfl rfl rfl (by decide) (Ef.al rfl ZR100 rfl) ?_
          rintro _ _ ⟨b45, rfl, rfl⟩
          refine ⟨.inl rfl, ?_⟩
          refine W.cast (m' := m) (l' := hcells b45 [_, _, _] 100 :: hown 38 1 v27 _ _ :: hrows 33 1 encU _ _ :: l) rfl rfl ?_
          refine W.s rfl rfl rfl rfl (Ef.stB (pos := 0) (us := [_, _, _]) (cs' := [_, _, _]) rfl rfl (.t rfl) (.t rfl) SZ100 rfl rfl rfl (Nat.le_of_ble_eq_true rfl) rfl) ?_
          rintro _ _ ⟨rfl, rfl⟩
          refine ⟨.inl rfl, ?_⟩
          refine W.cast (m' := m) (l' := hcells b45 [_, _, _] 100 :: hown 38 1 v27 _ _ :: hrows 33 1 encU _ _ :: l) rfl rfl ?_
          refine W.end ?_
          refine NX.sub (env' := [(0, _), (6, _), (33, _), (34, _), (35, _), (9, _)]) ⟨rfl, rfl, rfl, rfl, rfl, rfl, trivial⟩ ?_
          refine NX.then ?_
          refine Tr.seq ?_
          refine Tr.seq ?_
          refine Tr.region_f (fun _ => false) ?_
          refine W.q rfl rfl rfl rfl (by decide) (Yd.fldB rfl Try.underlying100 rfl SZ3 rfl (.t rfl)) ?_
          refine W.q rfl rfl rfl rfl (by decide) (Yd.ldB (pos := 0) rfl rfl rfl ON3 (.t rfl)) ?_
          refine W.q rfl rfl rfl rfl (by decide) (Yd.fldB rfl Try.underlying100 rfl SZ3 rfl (.t rfl)) ?_
          refine W.q rfl rfl rfl rfl (by decide) (Yd.ldB (pos := 0) rfl rfl rfl ON3 (.t rfl)) ?_
          refine W.q rfl rfl rfl rfl (by decide) (Yd.min2 rfl (.t rfl) (.t rfl)) ?_
          refine W.q rfl rfl rfl rfl (by decide) (Yd.lss rfl (.t rfl) .c) ?_
          refine W.q rfl rfl rfl rfl (by decide) (Yd.mv rfl (.t rfl)) ?_
          refine W.g rfl rfl rfl rfl rfl (.t rfl _) rfl (by decide) (fun hG => Yd.fldB rfl Try.underlying100 rfl SZ3 rfl (.t rfl)) ?_
          refine W.g rfl rfl rfl rfl rfl (.t rfl _) rfl (by decide) (fun hG => Yd.ldB (pos := 0) rfl rfl rfl ON3 (.g rfl hG)) ?_
          refine W.g rfl rfl rfl rfl rfl (.t rfl _) rfl (by decide) (fun hG => Yd.fldB rfl Try.underlying100 rfl SZ3 rfl (.t rfl)) ?_
          refine W.g rfl rfl rfl rfl rfl (.t rfl _) rfl (by decide) (fun hG => Yd.ldB (pos := 0) rfl rfl rfl ON3 (.g rfl hG)) ?_
          refine W.g rfl rfl rfl rfl rfl (.t rfl _) rfl (by decide) (fun hG => Yd.max2 rfl (.g rfl hG) (.g rfl hG)) ?_
          refine W.g rfl rfl rfl rfl rfl (.t rfl _) rfl (by decide) (fun hG => Yd.mv rfl (.t rfl)) ?_
          refine W.g rfl rfl rfl rfl rfl (.t rfl _) rfl (by decide) (fun hG => Yd.geq rfl (.g rfl hG) (.g rfl hG)) ?_
          refine W.q rfl rfl rfl rfl (by decide) (Yd.or rfl (.t rfl) .c rfl rfl) ?_
          refine W.q rfl rfl rfl rfl (by decide) (Yd.mv rfl (.t rfl)) ?_
          refine W.g rfl rfl rfl rfl rfl (.t rfl _) rfl (by decide) (fun hG => Yd.fldB rfl Try.underlying100 rfl SZ3 rfl (.t rfl)) ?_
          refine W.g rfl rfl rfl rfl rfl (.t rfl _) rfl (by decide) (fun hG => Yd.ldB (pos := 0) rfl rfl rfl ON3 (.g rfl hG)) ?_
          refine W.g rfl rfl rfl rfl rfl (.t rfl _) rfl (by decide) (fun hG => Yd.fldB rfl Try.underlying100 rfl SZ3 rfl (.t rfl)) ?_
          refine W.g rfl rfl rfl rfl rfl (.t rfl _) rfl (by decide) (fun hG => Yd.ldB (pos := 0) rfl rfl rfl ON3 (.g rfl hG)) ?_
          refine W.g rfl rfl rfl rfl rfl (.t rfl _) rfl (by decide) (fun hG => Yd.eql rfl (.g rfl hG) (.g rfl hG)) ?_
          refine W.q rfl rfl rfl rfl (by decide) (Yd.or rfl (.t rfl) .c rfl rfl) ?_
          refine W.end ?_
          refine NX.sub (env' := [(0, _), (6, _), (33, _), (34, _), (35, _), (9, _), (60, _)]) ⟨rfl, rfl, rfl, rfl, rfl, rfl, rfl, trivial⟩ ?_
          refine NX.then ?_
          refine Tr.cond (.t rfl) (fun hb => ?_) (fun hb => ?_)
          · have hr := cond_t hb hr
            refine Tr.seq ?_
            refine Tr.region_f (fun _ => false) ?_
            refine W.q rfl rfl rfl rfl (by decide) (Yd.as rfl .c) ?_
            refine W.q rfl rfl rfl rfl (by decide) (Yd.as rfl .c) ?_
            refine W.end ?_
            refine NX.sub (env' := [(4, _), (5, _)]) ⟨rfl, rfl, trivial⟩ ?_
            refine NX.drop (l' := l) (.cons _ (.cons _ (.cons _ (.refl _)))) ?_
            refine NX.then ?_
            refine Tr.ret' (RT.then (RT.block (RT.then (RT.then (RT.block (RT.then ?_))))))
            refine res2 rfl rfl rfl ?_
            intro w hc
            cases hr
            exact ⟨_, _, rfl, (.refl _), (RS.nil _ _), hc⟩
          · have hr := cond_f hb hr
            refine Tr.skip' ?_
            refine NX.then ?_
            obtain ⟨y47, hy48, hr⟩ := bind_some hr
            obtain ⟨y51, hy52, hr⟩ := bind_some hr
            refine Tr.region_x (fun i => Nat.beq i 13) (fun i => Nat.beq i 13) (Ord.of [0, 1, 2, 3, 4, 5, 6, 7, 8, 9, 10, 11, 12, 13]) FM (by kernel_rfl) ?_
            refine W.q rfl rfl rfl rfl (by decide) (Yd.mv rfl (.t rfl)) ?_
            refine W.q rfl rfl rfl rfl (by decide) (Yd.fldB rfl Try.underlying100 rfl SZ3 rfl (.t rfl)) ?_
            refine W.q rfl rfl rfl rfl (by decide) (Yd.ldB (pos := 0) rfl rfl rfl ON3 (.t rfl)) ?_
            refine W.q rfl rfl rfl rfl (by decide) (Yd.idxO (pos := 1) (xs := l26) rfl hy48 rfl Try.underlying95 SZ38 (.t rfl) (.t rfl)) ?_
            obtain ⟨u49, hu50⟩ := us_get hw29 hy48
            refine W.q rfl rfl rfl rfl (by decide) (Yd.ldU (pos := 1) rfl hu50 rfl ON38 (.t rfl)) ?_
            refine W.q rfl rfl rfl rfl (by decide) (Yd.fldB rfl Try.underlying100 rfl SZ3 rfl (.t rfl)) ?_
            refine W.q rfl rfl rfl rfl (by decide) (Yd.ldB (pos := 0) rfl rfl rfl ON3 (.t rfl)) ?_
            refine W.q rfl rfl rfl rfl (by decide) (Yd.idxM (pos := 2) rfl hu50 hy48 hy52 rfl Try.underlying38 SZ33 (.t rfl) (.t rfl)) ?_
            refine W.q rfl rfl rfl rfl (by decide) (Yd.ldM (enc := encU) (n := 1) (pos := 2) (fun _ => rfl) rfl hu50 hy48 hy52 rfl rfl ON33 (.t rfl)) ?_
            refine W.q rfl rfl rfl rfl (by decide) (Yd.fldB rfl Try.underlying100 rfl SZ33 rfl (.t rfl)) ?_
            refine W.q rfl rfl rfl rfl (by decide) (Yd.ldB (pos := 0) rfl rfl rfl ON33 (.t rfl)) ?_
            refine W.q rfl rfl rfl rfl (by decide) (Yd.orU (a := y51) (b := y43.rights) rfl (.t rfl) (.t rfl)) ?_
            refine W.q rfl rfl rfl rfl (by decide) (Yd.idxM (pos := 2) rfl hu50 hy48 hy52 rfl Try.underlying38 SZ33 (.t rfl) (.t rfl)) ?_
            refine W.s rfl rfl rfl rfl (Ef.stM (enc := encU) (n := 1) (pos0 := 1) (pos := 2) (y := (y51 ||| y43.rights)) (us' := [_]) (fun _ => rfl) rfl rfl hu50 hy48 hy52 rfl (.t rfl) (.t rfl) SZ33 rfl rfl rfl (by decide)) ?_
            rintro _ _ ⟨rfl, rfl⟩
            refine ⟨.inl rfl, ?_⟩
            refine W.cast (m' := m) (l' := hcells b45 [_, _, _] 100 :: hown 38 1 v27 _ _ :: hrows 33 1 encU _ _ :: l) rfl rfl ?_
            refine W.end ?_
            refine NX.sub (env' := [(0, _), (6, _), (33, _), (34, _), (35, _)]) ⟨rfl, rfl, rfl, rfl, rfl, trivial⟩ ?_
            refine NX.drop (l' := hown 38 1 v27 _ _ :: hrows 33 1 encU _ _ :: l) (.cons _ (.cons_cons _ (.cons_cons _ (.refl _)))) ?_
            refine NX.block ?_
            refine NX.then ?_
            refine Tr.region_f (fun _ => false) ?_
            refine W.q rfl rfl rfl rfl (by decide) (Yd.add rfl (.t rfl) .c) ?_
            refine W.q rfl rfl rfl rfl (by decide) (Yd.mv rfl (.t rfl)) ?_
            refine W.end ?_
            refine NX.sub (env' := [(0, _), (6, _), (33, _), (34, _), (35, _)]) ⟨rfl, rfl, rfl, rfl, rfl, trivial⟩ ?_
            refine NX.sub (env' := [(0, _), (6, _), (33, _), (34, _), (35, _)]) ⟨rfl, rfl, rfl, rfl, rfl, trivial⟩ ?_
            have hw := w64_id (n := t_39 + 1) (by omega) (by omega)
            exact NX.again n42 (t_39 + 1, (l26.set y43.src.toNat (y47.set y43.to.toNat ((y51 ||| y43.rights))))) (Nat.lt_succ_self _) ⟨_, _, (setM hw29), (by rw [hw] <;> rfl), rfl, (fr_dec hnt_39), (by omega), ((hnx41 _).symm.trans hr)⟩
    refine Tr.lenO (pos := 0) rfl (fun hlen53 => ?_)
    refine Tr.block ?_
    refine Tr.sub (env' := [(0, _), (1, _), (6, _), (24, _), (25, _)]) ⟨rfl, rfl, rfl, rfl, rfl, trivial⟩ ?_
    refine Tr.loop (S := fun n (z : Int × (List (List (BitVec 32)))) env x => match z with | (t_54, l10) => ∃ v11 : Value, ∃ us12 : List Value, us12.length = l10.length ∧ env = [(0, .int .i64 n_0), (1, uedges_1), (6, v11), (24, .int .i64 ((((List.replicate n_0.toNat ([] : List (BitVec 32)))).length : Int))), (25, .int .i64 t_54)] ∧ x = ⟨m, hown 38 1 v11 l10.length us12 :: hrows 33 1 encU us12 l10 :: l⟩ ∧ n = ((((List.replicate n_0.toNat ([] : List (BitVec 32)))).length : Int) - t_54).toNat ∧ 0 ≤ t_54 ∧ forK (σ := (List (List (BitVec 32)))) (fun i s nx_ => grant_build_b55 i s nx_) (fun s => grant_build_k18 n_0 edges_1 s) n t_54 l10 = some r) _ ((0 : Int), (List.replicate n_0.toNat ([] : List (BitVec 32)))) ⟨_, _, (lenRep : (List.replicate n_0.toNat (Value.slice none 0 0)).length = (List.replicate n_0.toNat ([] : List (BitVec 32))).length), rfl, rfl, rfl, (by omega), hr⟩ ?_
    rintro n57 ⟨t_54, l10⟩ env x ⟨v11, us12, hw13, rfl, rfl, hnt_54, h0t_54, hr⟩
    cases n57 with
    | zero =>
      simp only [forK] at hr
      refine Tr.seq ?_
      refine Tr.region_f (fun _ => false) ?_
      refine W.q rfl rfl rfl rfl (by decide) (Yd.lss rfl (.t rfl) (.t rfl)) ?_
      refine W.end ?_
      refine NX.sub (env' := [(0, _), (1, _), (6, _), (24, _), (25, _), (26, _)]) ⟨rfl, rfl, rfl, rfl, rfl, rfl, trivial⟩ ?_
      refine NX.then ?_
      refine Tr.seq ?_
      refine Tr.cond (.t rfl) (fun hb => ?_) (fun hb => ?_)
      · exact absurd (hb.symm.trans (fr_end hnt_54)) (by decide)
      ·
        refine Tr.exit' (EX.then (EX.then (EX.block ?_)))
        refine NX.sub (env' := [(0, _), (1, _), (6, _)]) ⟨rfl, rfl, rfl, trivial⟩ ?_
        exact hk19 _ _ ⟨_, _, _, hw13, rfl, rfl, hr⟩
    | succ n57 =>
      obtain ⟨nx56, hnx56, hr⟩ := forK_succ hr
      try dsimp only at hr
      unfold grant_build_b55 at hr
      try dsimp only at hr
      have hltt_54 := fr_bnd hnt_54
      refine Tr.seq ?_
      refine Tr.region_f (fun _ => false) ?_
      refine W.q rfl rfl rfl rfl (by decide) (Yd.lss rfl (.t rfl) (.t rfl)) ?_
      refine W.end ?_
      refine NX.sub (env' := [(0, _), (1, _), (6, _), (24, _), (25, _), (26, _)]) ⟨rfl, rfl, rfl, rfl, rfl, rfl, trivial⟩ ?_
      refine NX.then ?_
      refine Tr.seq ?_
      refine Tr.cond (.t rfl) (fun hb => ?_) (fun hb => ?_)
      rotate_left
      · exact absurd (hb.symm.trans (fr_go hnt_54)) (by decide)
      ·
        refine Tr.skip' ?_
        refine NX.then ?_
        refine Tr.seq ?_
        refine Tr.block ?_
        refine Tr.seq ?_
        refine Tr.region_f (fun _ => false) ?_
        refine W.q rfl rfl rfl rfl (by decide) (Yd.mv rfl (.t rfl)) ?_
        refine W.q rfl rfl rfl rfl (by decide) (Yd.as rfl (.t rfl)) ?_
        refine W.end ?_
        refine NX.sub (env' := [(0, _), (1, _), (6, _), (24, _), (25, _), (7, _)]) ⟨rfl, rfl, rfl, rfl, rfl, rfl, trivial⟩ ?_
        refine NX.then ?_
        obtain ⟨hq58, hr⟩ := guard_some hr; replace hq58 := of_decide_eq_true hq58
        obtain ⟨y61, hy62, hr⟩ := bind_some hr
        refine Tr.region_f (fun i => Nat.beq i 2 || Nat.beq i 4) ?_
        refine W.q rfl rfl rfl rfl (by decide) (Yd.mv rfl (.t rfl)) ?_
        refine W.q rfl rfl rfl rfl (by decide) (Yd.mv rfl (.t rfl)) ?_
        refine W.e rfl rfl rfl rfl (by decide) (Ef.mkT (enc := encU) (0#32) IF33 rfl Try.underlying38 rfl rfl (by decide) .c .c (by omega) (by omega) (by omega)) ?_
        rintro v59 _ rfl
        refine ⟨.inl rfl, ?_⟩
        refine W.cast (m' := m) (l' := hownT 33 1 encU v59 _ :: hown 38 1 v11 _ _ :: hrows 33 1 encU _ _ :: l) rfl rfl ?_
        refine W.q rfl rfl rfl rfl (by decide) (Yd.idxO (pos := 1) (xs := l10) rfl hy62 rfl Try.underlying95 SZ38 (.t rfl) (.t rfl)) ?_
        refine W.s rfl rfl rfl rfl (Ef.stR (pos := 1) (pos2 := 0) (xss := l10) ((List.replicate ((14 : Int)).toNat (0#32))) rfl rfl hy62 hw13 rfl (.t rfl) (.t rfl) SZ38) ?_
        rintro _ _ ⟨rfl, rfl⟩
        refine ⟨.inl rfl, ?_⟩
        refine W.cast (m' := m) (l' := hownT 33 1 encU v59 _ :: hown 38 1 v11 _ _ :: hrows 33 1 encU _ _ :: l) rfl rfl ?_
        refine W.end ?_
        refine NX.imp (fun w hw => cX_setM (po := 0) (pr := 1) (i := t_54.toNat) rfl rfl (geti_some hy62).2.2 hw) ?_
        refine NX.cast (m' := m) (l' := hown 38 1 v11 _ _ :: hrows 33 1 encU _ _ :: l) rfl rfl ?_
        refine NX.sub (env' := [(0, _), (1, _), (6, _), (24, _), (25, _)]) ⟨rfl, rfl, rfl, rfl, rfl, trivial⟩ ?_
        refine NX.block ?_
        refine NX.then ?_
        refine Tr.region_f (fun _ => false) ?_
        refine W.q rfl rfl rfl rfl (by decide) (Yd.add rfl (.t rfl) .c) ?_
        refine W.q rfl rfl rfl rfl (by decide) (Yd.mv rfl (.t rfl)) ?_
        refine W.end ?_
        refine NX.sub (env' := [(0, _), (1, _), (6, _), (24, _), (25, _)]) ⟨rfl, rfl, rfl, rfl, rfl, trivial⟩ ?_
        refine NX.sub (env' := [(0, _), (1, _), (6, _), (24, _), (25, _)]) ⟨rfl, rfl, rfl, rfl, rfl, trivial⟩ ?_
        have hw := w64_id (n := t_54 + 1) (by omega) (by omega)
        exact NX.again n57 (t_54 + 1, (l10.set t_54.toNat ((List.replicate ((14 : Int)).toNat (0#32))))) (Nat.lt_succ_self _) ⟨_, _, (lenSet hw13), (by rw [hw] <;> rfl), rfl, (fr_dec hnt_54), (by omega), ((hnx56 _).symm.trans hr)⟩

def math_bits_OnesCount32 (x_0 : (BitVec 32)) : Option (Int) :=
  (geti tbl1024256 ((((x_0 >>> 24)).toNat : Int))).bind fun y1 =>
  (geti tbl1024256 (((((x_0 >>> 16) &&& 255#32)).toNat : Int))).bind fun y3 =>
  (geti tbl1024256 (((((x_0 >>> 8) &&& 255#32)).toNat : Int))).bind fun y5 =>
  (geti tbl1024256 ((((x_0 &&& 255#32)).toNat : Int))).bind fun y7 =>
  some ((((((y1 + y3) + y5) + y7)).toNat : Int))

set_option maxRecDepth 100000 in
set_option maxHeartbeats 4000000 in
theorem math_bits_OnesCount32_ok (w0 : World) (m : Snap) (l : List HI) (x_0 : (BitVec 32)) (r : Int) (hr : math_bits_OnesCount32 x_0 = some r) (w : World) (hc : cX w0 ⟨m, l⟩ w) :
    Calls Try.prog 74 [.int .u32 (x_0.toNat : Int)].toArray w fun e w' => e = .returned (.int .i64 r) ∧ cX w0 ⟨m, l⟩ w' := by
  unfold math_bits_OnesCount32 at hr
  refine calls_of_Tr (N := 21) Try.func74 rfl hc rfl (Nat.le_of_ble_eq_true rfl) ?_
  refine Tr.seq ?_
  refine Tr.region_f (fun _ => false) ?_
  refine W.q rfl rfl rfl rfl (by decide) (Yd.as rfl .c) ?_
  refine W.end ?_
  refine NX.sub (env' := [(0, _)]) ⟨rfl, trivial⟩ ?_
  refine NX.then ?_
  refine Tr.seq ?_
  obtain ⟨y1, hy2, hr⟩ := bind_some hr
  obtain ⟨y3, hy4, hr⟩ := bind_some hr
  obtain ⟨y5, hy6, hr⟩ := bind_some hr
  obtain ⟨y7, hy8, hr⟩ := bind_some hr
  refine Tr.region_x (fun _ => false) (fun _ => false) (Ord.of [0, 1, 2, 3, 4, 5, 6, 7, 8, 9, 10, 11, 12, 13, 14, 15, 16, 17, 18]) FM (by kernel_rfl) ?_
  refine W.q rfl rfl rfl rfl (by decide) (Yd.mv rfl (.t rfl)) ?_
  refine W.q rfl rfl rfl rfl (by decide) (Yd.shrU (a := x_0) rfl (.t rfl) .c (by decide)) ?_
  refine W.q rfl rfl rfl rfl (by decide) (Yd.ixS rfl Try.underlying9 .c (tb := tbl1024256) (by kernel_rfl) (.t rfl) hy2) ?_
  refine W.q rfl rfl rfl rfl (by decide) (Yd.mv rfl (.t rfl)) ?_
  refine W.q rfl rfl rfl rfl (by decide) (Yd.shrU (a := x_0) rfl (.t rfl) .c (by decide)) ?_
  refine W.q rfl rfl rfl rfl (by decide) (Yd.andU (a := (x_0 >>> 16)) (b := 255#32) rfl (.t rfl) .c) ?_
  refine W.q rfl rfl rfl rfl (by decide) (Yd.ixS rfl Try.underlying9 .c (tb := tbl1024256) (by kernel_rfl) (.t rfl) hy4) ?_
  refine W.q rfl rfl rfl rfl (by decide) (Yd.addY (a := y1) (b := y3) rfl (.t rfl) (.t rfl)) ?_
  refine W.q rfl rfl rfl rfl (by decide) (Yd.mv rfl (.t rfl)) ?_
  refine W.q rfl rfl rfl rfl (by decide) (Yd.shrU (a := x_0) rfl (.t rfl) .c (by decide)) ?_
  refine W.q rfl rfl rfl rfl (by decide) (Yd.andU (a := (x_0 >>> 8)) (b := 255#32) rfl (.t rfl) .c) ?_
  refine W.q rfl rfl rfl rfl (by decide) (Yd.ixS rfl Try.underlying9 .c (tb := tbl1024256) (by kernel_rfl) (.t rfl) hy6) ?_
  refine W.q rfl rfl rfl rfl (by decide) (Yd.addY (a := (y1 + y3)) (b := y5) rfl (.t rfl) (.t rfl)) ?_
  refine W.q rfl rfl rfl rfl (by decide) (Yd.mv rfl (.t rfl)) ?_
  refine W.q rfl rfl rfl rfl (by decide) (Yd.andU (a := x_0) (b := 255#32) rfl (.t rfl) .c) ?_
  refine W.q rfl rfl rfl rfl (by decide) (Yd.ixS rfl Try.underlying9 .c (tb := tbl1024256) (by kernel_rfl) (.t rfl) hy8) ?_
  refine W.q rfl rfl rfl rfl (by decide) (Yd.addY (a := ((y1 + y3) + y5)) (b := y7) rfl (.t rfl) (.t rfl)) ?_
  refine W.q rfl rfl rfl rfl (by decide) (Yd.cvBI (a := (((y1 + y3) + y5) + y7)) rfl US5 Try.underlying3 (.t rfl)) ?_
  refine W.q rfl rfl rfl rfl (by decide) (Yd.as rfl (.t rfl)) ?_
  refine W.end ?_
  refine NX.sub (env' := [(2, _)]) ⟨rfl, trivial⟩ ?_
  refine NX.then ?_
  refine Tr.ret' ?_
  refine res1 rfl rfl ?_
  intro w hc
  cases hr
  exact ⟨rfl, hc⟩

def grant_wrong (n_0 : Int) (edges_1 : List Edge) (x_2 : Int) (y_3 : Int) (right_4 : (BitVec 32)) : Option ((List (List (BitVec 32))) × Int) :=
  (grant_build n_0 edges_1).bind fun r1 =>
  (bif (r1.2 != (0 : Int)) then
  some (([], r1.2))
  else
  (bif (((decide ((if y_3 < x_2 then y_3 else x_2) < (0 : Int))) || (decide ((if y_3 > x_2 then y_3 else x_2) ≥ n_0))) || (x_2 == y_3)) then
  some (([], (2 : Int)))
  else
  (math_bits_OnesCount32 right_4).bind fun r6 =>
  (bif (r6 != (1 : Int)) then
  some (([], (4 : Int)))
  else
  some ((r1.1, (0 : Int))))))

set_option maxRecDepth 100000 in
set_option maxHeartbeats 4000000 in
theorem grant_wrong_ok (w0 : World) (m : Snap) (l : List HI) (n_0 : Int) (uedges_1 : Value) (edges_1 : List Edge) (hedges_1 : RS rEdge m uedges_1 edges_1) (x_2 : Int) (y_3 : Int) (right_4 : (BitVec 32)) (r : (List (List (BitVec 32))) × Int) (hr : grant_wrong n_0 edges_1 x_2 y_3 right_4 = some r) (w : World) (hc : cX w0 ⟨m, l⟩ w) :
    Calls Try.prog 49 [.int .i64 n_0, uedges_1, .int .i64 x_2, .int .i64 y_3, .int .u32 (right_4.toNat : Int)].toArray w fun e w' => ∃ z0 : Value, ∃ m1 : Snap, e = .returned (.tuple #[z0, .int .i64 r.2]) ∧ Sle m m1 ∧ RS (Rp.slice rU) m1 z0 r.1 ∧ cX w0 ⟨m1, l⟩ w' := by
  unfold grant_wrong at hr
  refine calls_of_Tr (N := 46) Try.func49 rfl hc rfl (Nat.le_of_ble_eq_true rfl) ?_
  refine Tr.seq ?_
  refine Tr.region_f (fun _ => false) ?_
  refine W.q rfl rfl rfl rfl (by decide) (Yd.as rfl .c) ?_
  refine W.q rfl rfl rfl rfl (by decide) (Yd.as rfl .c) ?_
  refine W.end ?_
  refine NX.sub (env' := [(0, _), (1, _), (2, _), (3, _), (4, _)]) ⟨rfl, rfl, rfl, rfl, rfl, trivial⟩ ?_
  refine NX.then ?_
  refine Tr.seq ?_
  obtain ⟨r1, hr2, hr⟩ := bind_some hr
  refine Tr.region_f (fun i => Nat.beq i 2) ?_
  refine W.q rfl rfl rfl rfl (by decide) (Yd.mv rfl (.t rfl)) ?_
  refine W.q rfl rfl rfl rfl (by decide) (Yd.mv rfl (.t rfl)) ?_
  refine W.e rfl rfl rfl rfl (by decide) (Ef.call (R := fun z x' => ∃ u3 : Value, ∃ m4 : Snap, z = .tuple #[u3, .int .i64 r1.2] ∧ x' = ⟨m4, l⟩ ∧ Sle m m4 ∧ RS (Rp.slice rU) m4 u3 r1.1) rfl Try.func46 rfl rfl (.cons (.t rfl) (.cons (.t rfl) .nil)) (fun w hw => (grant_build_ok w0 _ _ n_0 _ _ hedges_1 _ hr2 w hw).mono fun e w' ⟨u3, m4, he, hm', hu5, hc'⟩ => ⟨_, _, he, ⟨u3, m4, rfl, rfl, hm', hu5⟩, hc'⟩)) ?_
  rintro _ _ ⟨u3, m4, rfl, rfl, hsm4, hu5⟩
  have hedges_1 := hedges_1.mono hsm4
  refine ⟨.inl rfl, ?_⟩
  refine W.cast (m' := m4) (l' := l) rfl rfl ?_
  refine W.q rfl rfl rfl rfl (by decide) (Yd.mv rfl (.t rfl)) ?_
  refine W.q rfl rfl rfl rfl (by decide) (Yd.ext rfl (.t rfl) rfl) ?_
  refine W.q rfl rfl rfl rfl (by decide) (Yd.ext rfl (.t rfl) rfl) ?_
  refine W.q rfl rfl rfl rfl (by decide) (Yd.as rfl (.t rfl)) ?_
  refine W.q rfl rfl rfl rfl (by decide) (Yd.as rfl (.t rfl)) ?_
  refine W.end ?_
  refine NX.sub (env' := [(0, _), (2, _), (3, _), (4, _), (12, _), (13, _)]) ⟨rfl, rfl, rfl, rfl, rfl, rfl, trivial⟩ ?_
  refine NX.then ?_
  refine Tr.seq ?_
  refine Tr.block ?_
  refine Tr.seq ?_
  refine Tr.region_f (fun _ => false) ?_
  refine W.q rfl rfl rfl rfl (by decide) (Yd.mv rfl (.t rfl)) ?_
  refine W.q rfl rfl rfl rfl (by decide) (Yd.neq rfl (.t rfl) .c) ?_
  refine W.q rfl rfl rfl rfl (by decide) (Yd.as rfl (.t rfl)) ?_
  refine W.end ?_
  refine NX.sub (env' := [(0, _), (2, _), (3, _), (4, _), (12, _), (13, _), (20, _)]) ⟨rfl, rfl, rfl, rfl, rfl, rfl, rfl, trivial⟩ ?_
  refine NX.then ?_
  refine Tr.cond (.t rfl) (fun hb => ?_) (fun hb => ?_)
  · have hr := cond_t hb hr
    refine Tr.seq ?_
    refine Tr.region_f (fun _ => false) ?_
    refine W.q rfl rfl rfl rfl (by decide) (Yd.mv rfl (.t rfl)) ?_
    refine W.q rfl rfl rfl rfl (by decide) (Yd.as rfl .c) ?_
    refine W.q rfl rfl rfl rfl (by decide) (Yd.as rfl (.t rfl)) ?_
    refine W.end ?_
    refine NX.sub (env' := [(10, _), (11, _)]) ⟨rfl, rfl, trivial⟩ ?_
    refine NX.then ?_
    refine Tr.ret' (RT.block (RT.then ?_))
    refine res2 rfl rfl rfl ?_
    intro w hc
    cases hr
    exact ⟨_, _, rfl, hsm4, (RS.nil _ _), hc⟩
  · have hr := cond_f hb hr
    refine Tr.seq ?_
    refine Tr.region_f (fun _ => false) ?_
    refine W.q rfl rfl rfl rfl (by decide) (Yd.mv rfl (.t rfl)) ?_
    refine W.q rfl rfl rfl rfl (by decide) (Yd.mv rfl (.t rfl)) ?_
    refine W.q rfl rfl rfl rfl (by decide) (Yd.min2 rfl (.t rfl) (.t rfl)) ?_
    refine W.q rfl rfl rfl rfl (by decide) (Yd.lss rfl (.t rfl) .c) ?_
    refine W.q rfl rfl rfl rfl (by decide) (Yd.mv rfl (.t rfl)) ?_
    refine W.g rfl rfl rfl rfl rfl (.t rfl _) rfl (by decide) (fun hG => Yd.mv rfl (.t rfl)) ?_
    refine W.g rfl rfl rfl rfl rfl (.t rfl _) rfl (by decide) (fun hG => Yd.mv rfl (.t rfl)) ?_
    refine W.g rfl rfl rfl rfl rfl (.t rfl _) rfl (by decide) (fun hG => Yd.max2 rfl (.g rfl hG) (.g rfl hG)) ?_
    refine W.g rfl rfl rfl rfl rfl (.t rfl _) rfl (by decide) (fun hG => Yd.mv rfl (.t rfl)) ?_
    refine W.g rfl rfl rfl rfl rfl (.t rfl _) rfl (by decide) (fun hG => Yd.geq rfl (.g rfl hG) (.g rfl hG)) ?_
    refine W.q rfl rfl rfl rfl (by decide) (Yd.or rfl (.t rfl) .c rfl rfl) ?_
    refine W.q rfl rfl rfl rfl (by decide) (Yd.mv rfl (.t rfl)) ?_
    refine W.g rfl rfl rfl rfl rfl (.t rfl _) rfl (by decide) (fun hG => Yd.mv rfl (.t rfl)) ?_
    refine W.g rfl rfl rfl rfl rfl (.t rfl _) rfl (by decide) (fun hG => Yd.mv rfl (.t rfl)) ?_
    refine W.g rfl rfl rfl rfl rfl (.t rfl _) rfl (by decide) (fun hG => Yd.eql rfl (.g rfl hG) (.g rfl hG)) ?_
    refine W.q rfl rfl rfl rfl (by decide) (Yd.or rfl (.t rfl) .c rfl rfl) ?_
    refine W.q rfl rfl rfl rfl (by decide) (Yd.as rfl (.t rfl)) ?_
    refine W.end ?_
    refine NX.sub (env' := [(4, _), (12, _), (24, _)]) ⟨rfl, rfl, rfl, trivial⟩ ?_
    refine NX.then ?_
    refine Tr.cond (.t rfl) (fun hb => ?_) (fun hb => ?_)
    · have hr := cond_t hb hr
      refine Tr.seq ?_
      refine Tr.region_f (fun _ => false) ?_
      refine W.q rfl rfl rfl rfl (by decide) (Yd.as rfl .c) ?_
      refine W.q rfl rfl rfl rfl (by decide) (Yd.as rfl .c) ?_
      refine W.end ?_
      refine NX.sub (env' := [(10, _), (11, _)]) ⟨rfl, rfl, trivial⟩ ?_
      refine NX.then ?_
      refine Tr.ret' (RT.block (RT.then ?_))
      refine res2 rfl rfl rfl ?_
      intro w hc
      cases hr
      exact ⟨_, _, rfl, hsm4, (RS.nil _ _), hc⟩
    · have hr := cond_f hb hr
      refine Tr.seq ?_
      obtain ⟨r6, hr7, hr⟩ := bind_some hr
      refine Tr.region_f (fun _ => false) ?_
      refine W.q rfl rfl rfl rfl (by decide) (Yd.mv rfl (.t rfl)) ?_
      refine W.q rfl rfl rfl rfl (by decide) (Yd.call (v := .int .i64 r6) rfl Try.func74 rfl rfl (.cons (.t rfl) .nil) (fun x' hx w hw => math_bits_OnesCount32_ok w0 x'.m x'.l right_4 _ hr7 w hw)) ?_
      refine W.q rfl rfl rfl rfl (by decide) (Yd.neq rfl (.t rfl) .c) ?_
      refine W.q rfl rfl rfl rfl (by decide) (Yd.as rfl (.t rfl)) ?_
      refine W.end ?_
      refine NX.sub (env' := [(12, _), (41, _)]) ⟨rfl, rfl, trivial⟩ ?_
      refine NX.then ?_
      refine Tr.cond (.t rfl) (fun hb => ?_) (fun hb => ?_)
      · have hr := cond_t hb hr
        refine Tr.seq ?_
        refine Tr.region_f (fun _ => false) ?_
        refine W.q rfl rfl rfl rfl (by decide) (Yd.as rfl .c) ?_
        refine W.q rfl rfl rfl rfl (by decide) (Yd.as rfl .c) ?_
        refine W.end ?_
        refine NX.sub (env' := [(10, _), (11, _)]) ⟨rfl, rfl, trivial⟩ ?_
        refine NX.then ?_
        refine Tr.ret' (RT.block (RT.then ?_))
        refine res2 rfl rfl rfl ?_
        intro w hc
        cases hr
        exact ⟨_, _, rfl, hsm4, (RS.nil _ _), hc⟩
      · have hr := cond_f hb hr
        refine Tr.skip' ?_
        refine NX.block ?_
        refine NX.then ?_
        refine Tr.seq ?_
        refine Tr.region_f (fun _ => false) ?_
        refine W.q rfl rfl rfl rfl (by decide) (Yd.mv rfl (.t rfl)) ?_
        refine W.q rfl rfl rfl rfl (by decide) (Yd.as rfl (.t rfl)) ?_
        refine W.q rfl rfl rfl rfl (by decide) (Yd.as rfl .c) ?_
        refine W.end ?_
        refine NX.sub (env' := [(10, _), (11, _)]) ⟨rfl, rfl, trivial⟩ ?_
        refine NX.then ?_
        refine Tr.ret' ?_
        refine res2 rfl rfl rfl ?_
        intro w hc
        cases hr
        exact ⟨_, _, rfl, hsm4, hu5, hc⟩

def math_bits_Mul32 (x_0 : (BitVec 32)) (y_1 : (BitVec 32)) : Option ((BitVec 32) × (BitVec 32)) :=
  some (((BitVec.ofInt 32 (((((BitVec.ofInt 64 (x_0.toNat : Int)) * (BitVec.ofInt 64 (y_1.toNat : Int))) >>> 32)).toNat : Int)), (BitVec.ofInt 32 ((((BitVec.ofInt 64 (x_0.toNat : Int)) * (BitVec.ofInt 64 (y_1.toNat : Int)))).toNat : Int))))

set_option maxRecDepth 100000 in
set_option maxHeartbeats 4000000 in
theorem math_bits_Mul32_ok (w0 : World) (m : Snap) (l : List HI) (x_0 : (BitVec 32)) (y_1 : (BitVec 32)) (r : (BitVec 32) × (BitVec 32)) (hr : math_bits_Mul32 x_0 y_1 = some r) (w : World) (hc : cX w0 ⟨m, l⟩ w) :
    Calls Try.prog 86 [.int .u32 (x_0.toNat : Int), .int .u32 (y_1.toNat : Int)].toArray w fun e w' => e = .returned (.tuple #[.int .u32 (r.1.toNat : Int), .int .u32 (r.2.toNat : Int)]) ∧ cX w0 ⟨m, l⟩ w' := by
  unfold math_bits_Mul32 at hr
  refine calls_of_Tr (N := 17) Try.func86 rfl hc rfl (Nat.le_of_ble_eq_true rfl) ?_
  refine Tr.seq ?_
  refine Tr.region_f (fun _ => false) ?_
  refine W.q rfl rfl rfl rfl (by decide) (Yd.as rfl .c) ?_
  refine W.q rfl rfl rfl rfl (by decide) (Yd.as rfl .c) ?_
  refine W.end ?_
  refine NX.sub (env' := [(0, _), (1, _)]) ⟨rfl, rfl, trivial⟩ ?_
  refine NX.then ?_
  refine Tr.seq ?_
  refine Tr.region_f (fun _ => false) ?_
  refine W.q rfl rfl rfl rfl (by decide) (Yd.mv rfl (.t rfl)) ?_
  refine W.q rfl rfl rfl rfl (by decide) (Yd.cvQ rfl US33 Try.underlying146 (.t rfl)) ?_
  refine W.q rfl rfl rfl rfl (by decide) (Yd.mv rfl (.t rfl)) ?_
  refine W.q rfl rfl rfl rfl (by decide) (Yd.cvQ rfl US33 Try.underlying146 (.t rfl)) ?_
  refine W.q rfl rfl rfl rfl (by decide) (Yd.mulQ (a := (BitVec.ofInt 64 (x_0.toNat : Int))) (b := (BitVec.ofInt 64 (y_1.toNat : Int))) rfl (.t rfl) (.t rfl)) ?_
  refine W.q rfl rfl rfl rfl (by decide) (Yd.as rfl (.t rfl)) ?_
  refine W.end ?_
  refine NX.sub (env' := [(6, _)]) ⟨rfl, trivial⟩ ?_
  refine NX.then ?_
  refine Tr.seq ?_
  refine Tr.region_f (fun _ => false) ?_
  refine W.q rfl rfl rfl rfl (by decide) (Yd.mv rfl (.t rfl)) ?_
  refine W.q rfl rfl rfl rfl (by decide) (Yd.shrQ (a := ((BitVec.ofInt 64 (x_0.toNat : Int)) * (BitVec.ofInt 64 (y_1.toNat : Int)))) rfl (.t rfl) .c (by decide)) ?_
  refine W.q rfl rfl rfl rfl (by decide) (Yd.cvU rfl US146 Try.underlying33 (.t rfl)) ?_
  refine W.q rfl rfl rfl rfl (by decide) (Yd.mv rfl (.t rfl)) ?_
  refine W.q rfl rfl rfl rfl (by decide) (Yd.cvU rfl US146 Try.underlying33 (.t rfl)) ?_
  refine W.q rfl rfl rfl rfl (by decide) (Yd.as rfl (.t rfl)) ?_
  refine W.q rfl rfl rfl rfl (by decide) (Yd.as rfl (.t rfl)) ?_
  refine W.end ?_
  refine NX.sub (env' := [(4, _), (5, _)]) ⟨rfl, rfl, trivial⟩ ?_
  refine NX.then ?_
  refine Tr.ret' ?_
  refine res2 rfl rfl rfl ?_
  intro w hc
  cases hr
  exact ⟨rfl, hc⟩

def math_bits_Mul64 (x_0 : (BitVec 64)) (y_1 : (BitVec 64)) : Option ((BitVec 64) × (BitVec 64)) :=
  some ((((((x_0 >>> 32) * (y_1 >>> 32)) + ((((x_0 >>> 32) * (y_1 &&& 4294967295#64)) + (((x_0 &&& 4294967295#64) * (y_1 &&& 4294967295#64)) >>> 32)) >>> 32)) + ((((((x_0 >>> 32) * (y_1 &&& 4294967295#64)) + (((x_0 &&& 4294967295#64) * (y_1 &&& 4294967295#64)) >>> 32)) &&& 4294967295#64) + ((x_0 &&& 4294967295#64) * (y_1 >>> 32))) >>> 32)), (x_0 * y_1)))

set_option maxRecDepth 100000 in
set_option maxHeartbeats 4000000 in
theorem math_bits_Mul64_ok (w0 : World) (m : Snap) (l : List HI) (x_0 : (BitVec 64)) (y_1 : (BitVec 64)) (r : (BitVec 64) × (BitVec 64)) (hr : math_bits_Mul64 x_0 y_1 = some r) (w : World) (hc : cX w0 ⟨m, l⟩ w) :
    Calls Try.prog 87 [.int .u64 (x_0.toNat : Int), .int .u64 (y_1.toNat : Int)].toArray w fun e w' => e = .returned (.tuple #[.int .u64 (r.1.toNat : Int), .int .u64 (r.2.toNat : Int)]) ∧ cX w0 ⟨m, l⟩ w' := by
  unfold math_bits_Mul64 at hr
  refine calls_of_Tr (N := 51) Try.func87 rfl hc rfl (Nat.le_of_ble_eq_true rfl) ?_
  refine Tr.seq ?_
  refine Tr.region_f (fun _ => false) ?_
  refine W.q rfl rfl rfl rfl (by decide) (Yd.as rfl .c) ?_
  refine W.q rfl rfl rfl rfl (by decide) (Yd.as rfl .c) ?_
  refine W.end ?_
  refine NX.sub (env' := [(0, _), (1, _)]) ⟨rfl, rfl, trivial⟩ ?_
  refine NX.then ?_
  refine Tr.seq ?_
  refine Tr.region_f (fun _ => false) ?_
  refine W.q rfl rfl rfl rfl (by decide) (Yd.mv rfl (.t rfl)) ?_
  refine W.q rfl rfl rfl rfl (by decide) (Yd.andQ (a := x_0) (b := 4294967295#64) rfl (.t rfl) .c) ?_
  refine W.q rfl rfl rfl rfl (by decide) (Yd.as rfl (.t rfl)) ?_
  refine W.end ?_
  refine NX.sub (env' := [(0, _), (1, _), (6, _)]) ⟨rfl, rfl, rfl, trivial⟩ ?_
  refine NX.then ?_
  refine Tr.seq ?_
  refine Tr.region_f (fun _ => false) ?_
  refine W.q rfl rfl rfl rfl (by decide) (Yd.mv rfl (.t rfl)) ?_
  refine W.q rfl rfl rfl rfl (by decide) (Yd.shrQ (a := x_0) rfl (.t rfl) .c (by decide)) ?_
  refine W.q rfl rfl rfl rfl (by decide) (Yd.as rfl (.t rfl)) ?_
  refine W.end ?_
  refine NX.sub (env' := [(0, _), (1, _), (6, _), (7, _)]) ⟨rfl, rfl, rfl, rfl, trivial⟩ ?_
  refine NX.then ?_
  refine Tr.seq ?_
  refine Tr.region_f (fun _ => false) ?_
  refine W.q rfl rfl rfl rfl (by decide) (Yd.mv rfl (.t rfl)) ?_
  refine W.q rfl rfl rfl rfl (by decide) (Yd.andQ (a := y_1) (b := 4294967295#64) rfl (.t rfl) .c) ?_
  refine W.q rfl rfl rfl rfl (by decide) (Yd.as rfl (.t rfl)) ?_
  refine W.end ?_
  refine NX.sub (env' := [(0, _), (1, _), (6, _), (7, _), (8, _)]) ⟨rfl, rfl, rfl, rfl, rfl, trivial⟩ ?_
  refine NX.then ?_
  refine Tr.seq ?_
  refine Tr.region_f (fun _ => false) ?_
  refine W.q rfl rfl rfl rfl (by decide) (Yd.mv rfl (.t rfl)) ?_
  refine W.q rfl rfl rfl rfl (by decide) (Yd.shrQ (a := y_1) rfl (.t rfl) .c (by decide)) ?_
  refine W.q rfl rfl rfl rfl (by decide) (Yd.as rfl (.t rfl)) ?_
  refine W.end ?_
  refine NX.sub (env' := [(0, _), (1, _), (6, _), (7, _), (8, _), (9, _)]) ⟨rfl, rfl, rfl, rfl, rfl, rfl, trivial⟩ ?_
  refine NX.then ?_
  refine Tr.seq ?_
  refine Tr.region_f (fun _ => false) ?_
  refine W.q rfl rfl rfl rfl (by decide) (Yd.mv rfl (.t rfl)) ?_
  refine W.q rfl rfl rfl rfl (by decide) (Yd.mv rfl (.t rfl)) ?_
  refine W.q rfl rfl rfl rfl (by decide) (Yd.mulQ (a := (x_0 &&& 4294967295#64)) (b := (y_1 &&& 4294967295#64)) rfl (.t rfl) (.t rfl)) ?_
  refine W.q rfl rfl rfl rfl (by decide) (Yd.as rfl (.t rfl)) ?_
  refine W.end ?_
  refine NX.sub (env' := [(0, _), (1, _), (6, _), (7, _), (8, _), (9, _), (10, _)]) ⟨rfl, rfl, rfl, rfl, rfl, rfl, rfl, trivial⟩ ?_
  refine NX.then ?_
  refine Tr.seq ?_
  refine Tr.region_f (fun _ => false) ?_
  refine W.q rfl rfl rfl rfl (by decide) (Yd.mv rfl (.t rfl)) ?_
  refine W.q rfl rfl rfl rfl (by decide) (Yd.mv rfl (.t rfl)) ?_
  refine W.q rfl rfl rfl rfl (by decide) (Yd.mulQ (a := (x_0 >>> 32)) (b := (y_1 &&& 4294967295#64)) rfl (.t rfl) (.t rfl)) ?_
  refine W.q rfl rfl rfl rfl (by decide) (Yd.mv rfl (.t rfl)) ?_
  refine W.q rfl rfl rfl rfl (by decide) (Yd.shrQ (a := ((x_0 &&& 4294967295#64) * (y_1 &&& 4294967295#64))) rfl (.t rfl) .c (by decide)) ?_
  refine W.q rfl rfl rfl rfl (by decide) (Yd.addQ (a := ((x_0 >>> 32) * (y_1 &&& 4294967295#64))) (b := (((x_0 &&& 4294967295#64) * (y_1 &&& 4294967295#64)) >>> 32)) rfl (.t rfl) (.t rfl)) ?_
  refine W.q rfl rfl rfl rfl (by decide) (Yd.as rfl (.t rfl)) ?_
  refine W.end ?_
  refine NX.sub (env' := [(0, _), (1, _), (6, _), (7, _), (9, _), (11, _)]) ⟨rfl, rfl, rfl, rfl, rfl, rfl, trivial⟩ ?_
  refine NX.then ?_
  refine Tr.seq ?_
  refine Tr.region_f (fun _ => false) ?_
  refine W.q rfl rfl rfl rfl (by decide) (Yd.mv rfl (.t rfl)) ?_
  refine W.q rfl rfl rfl rfl (by decide) (Yd.andQ (a := (((x_0 >>> 32) * (y_1 &&& 4294967295#64)) + (((x_0 &&& 4294967295#64) * (y_1 &&& 4294967295#64)) >>> 32))) (b := 4294967295#64) rfl (.t rfl) .c) ?_
  refine W.q rfl rfl rfl rfl (by decide) (Yd.as rfl (.t rfl)) ?_
  refine W.end ?_
  refine NX.sub (env' := [(0, _), (1, _), (6, _), (7, _), (9, _), (11, _), (12, _)]) ⟨rfl, rfl, rfl, rfl, rfl, rfl, rfl, trivial⟩ ?_
  refine NX.then ?_
  refine Tr.seq ?_
  refine Tr.region_f (fun _ => false) ?_
  refine W.q rfl rfl rfl rfl (by decide) (Yd.mv rfl (.t rfl)) ?_
  refine W.q rfl rfl rfl rfl (by decide) (Yd.shrQ (a := (((x_0 >>> 32) * (y_1 &&& 4294967295#64)) + (((x_0 &&& 4294967295#64) * (y_1 &&& 4294967295#64)) >>> 32))) rfl (.t rfl) .c (by decide)) ?_
  refine W.q rfl rfl rfl rfl (by decide) (Yd.as rfl (.t rfl)) ?_
  refine W.end ?_
  refine NX.sub (env' := [(0, _), (1, _), (6, _), (7, _), (9, _), (12, _), (13, _)]) ⟨rfl, rfl, rfl, rfl, rfl, rfl, rfl, trivial⟩ ?_
  refine NX.then ?_
  refine Tr.seq ?_
  refine Tr.region_f (fun _ => false) ?_
  refine W.q rfl rfl rfl rfl (by decide) (Yd.mv rfl (.t rfl)) ?_
  refine W.q rfl rfl rfl rfl (by decide) (Yd.mv rfl (.t rfl)) ?_
  refine W.q rfl rfl rfl rfl (by decide) (Yd.mv rfl (.t rfl)) ?_
  refine W.q rfl rfl rfl rfl (by decide) (Yd.mulQ (a := (x_0 &&& 4294967295#64)) (b := (y_1 >>> 32)) rfl (.t rfl) (.t rfl)) ?_
  refine W.q rfl rfl rfl rfl (by decide) (Yd.addQ (a := ((((x_0 >>> 32) * (y_1 &&& 4294967295#64)) + (((x_0 &&& 4294967295#64) * (y_1 &&& 4294967295#64)) >>> 32)) &&& 4294967295#64)) (b := ((x_0 &&& 4294967295#64) * (y_1 >>> 32))) rfl (.t rfl) (.t rfl)) ?_
  refine W.q rfl rfl rfl rfl (by decide) (Yd.as rfl (.t rfl)) ?_
  refine W.end ?_
  refine NX.sub (env' := [(0, _), (1, _), (7, _), (9, _), (12, _), (13, _)]) ⟨rfl, rfl, rfl, rfl, rfl, rfl, trivial⟩ ?_
  refine NX.then ?_
  refine Tr.seq ?_
  refine Tr.region_f (fun _ => false) ?_
  refine W.q rfl rfl rfl rfl (by decide) (Yd.mv rfl (.t rfl)) ?_
  refine W.q rfl rfl rfl rfl (by decide) (Yd.mv rfl (.t rfl)) ?_
  refine W.q rfl rfl rfl rfl (by decide) (Yd.mulQ (a := (x_0 >>> 32)) (b := (y_1 >>> 32)) rfl (.t rfl) (.t rfl)) ?_
  refine W.q rfl rfl rfl rfl (by decide) (Yd.mv rfl (.t rfl)) ?_
  refine W.q rfl rfl rfl rfl (by decide) (Yd.addQ (a := ((x_0 >>> 32) * (y_1 >>> 32))) (b := ((((x_0 >>> 32) * (y_1 &&& 4294967295#64)) + (((x_0 &&& 4294967295#64) * (y_1 &&& 4294967295#64)) >>> 32)) >>> 32)) rfl (.t rfl) (.t rfl)) ?_
  refine W.q rfl rfl rfl rfl (by decide) (Yd.mv rfl (.t rfl)) ?_
  refine W.q rfl rfl rfl rfl (by decide) (Yd.shrQ (a := (((((x_0 >>> 32) * (y_1 &&& 4294967295#64)) + (((x_0 &&& 4294967295#64) * (y_1 &&& 4294967295#64)) >>> 32)) &&& 4294967295#64) + ((x_0 &&& 4294967295#64) * (y_1 >>> 32)))) rfl (.t rfl) .c (by decide)) ?_
  refine W.q rfl rfl rfl rfl (by decide) (Yd.addQ (a := (((x_0 >>> 32) * (y_1 >>> 32)) + ((((x_0 >>> 32) * (y_1 &&& 4294967295#64)) + (((x_0 &&& 4294967295#64) * (y_1 &&& 4294967295#64)) >>> 32)) >>> 32))) (b := ((((((x_0 >>> 32) * (y_1 &&& 4294967295#64)) + (((x_0 &&& 4294967295#64) * (y_1 &&& 4294967295#64)) >>> 32)) &&& 4294967295#64) + ((x_0 &&& 4294967295#64) * (y_1 >>> 32))) >>> 32)) rfl (.t rfl) (.t rfl)) ?_
  refine W.q rfl rfl rfl rfl (by decide) (Yd.as rfl (.t rfl)) ?_
  refine W.end ?_
  refine NX.sub (env' := [(0, _), (1, _), (4, _)]) ⟨rfl, rfl, rfl, trivial⟩ ?_
  refine NX.then ?_
  refine Tr.seq ?_
  refine Tr.region_f (fun _ => false) ?_
  refine W.q rfl rfl rfl rfl (by decide) (Yd.mv rfl (.t rfl)) ?_
  refine W.q rfl rfl rfl rfl (by decide) (Yd.mv rfl (.t rfl)) ?_
  refine W.q rfl rfl rfl rfl (by decide) (Yd.mulQ (a := x_0) (b := y_1) rfl (.t rfl) (.t rfl)) ?_
  refine W.q rfl rfl rfl rfl (by decide) (Yd.as rfl (.t rfl)) ?_
  refine W.end ?_
  refine NX.sub (env' := [(4, _), (5, _)]) ⟨rfl, rfl, trivial⟩ ?_
  refine NX.then ?_
  refine Tr.ret' ?_
  refine res2 rfl rfl rfl ?_
  intro w hc
  cases hr
  exact ⟨rfl, hc⟩

def math_bits_Mul (x_0 : (BitVec 64)) (y_1 : (BitVec 64)) : Option ((BitVec 64) × (BitVec 64)) :=
  (math_bits_Mul64 x_0 y_1).bind fun r1 =>
  some ((r1.1, r1.2))

set_option maxRecDepth 100000 in
set_option maxHeartbeats 4000000 in
theorem math_bits_Mul_ok (w0 : World) (m : Snap) (l : List HI) (x_0 : (BitVec 64)) (y_1 : (BitVec 64)) (r : (BitVec 64) × (BitVec 64)) (hr : math_bits_Mul x_0 y_1 = some r) (w : World) (hc : cX w0 ⟨m, l⟩ w) :
    Calls Try.prog 84 [.int .u64 (x_0.toNat : Int), .int .u64 (y_1.toNat : Int)].toArray w fun e w' => e = .returned (.tuple #[.int .u64 (r.1.toNat : Int), .int .u64 (r.2.toNat : Int)]) ∧ cX w0 ⟨m, l⟩ w' := by
  unfold math_bits_Mul at hr
  refine calls_of_Tr (N := 30) Try.func84 rfl hc rfl (Nat.le_of_ble_eq_true rfl) ?_
  refine Tr.seq ?_
  refine Tr.region_f (fun _ => false) ?_
  refine W.q rfl rfl rfl rfl (by decide) (Yd.as rfl .c) ?_
  refine W.q rfl rfl rfl rfl (by decide) (Yd.as rfl .c) ?_
  refine W.end ?_
  refine NX.sub (env' := [(0, _), (1, _)]) ⟨rfl, rfl, trivial⟩ ?_
  refine NX.then ?_
  refine Tr.seq ?_
  refine Tr.cond .c (fun hb => ?_) (fun hb => ?_)
  · exact absurd hb (by decide)
  ·
    refine Tr.skip' ?_
    refine NX.then ?_
    refine Tr.seq ?_
    obtain ⟨r1, hr2, hr⟩ := bind_some hr
    refine Tr.region_f (fun _ => false) ?_
    refine W.q rfl rfl rfl rfl (by decide) (Yd.mv rfl (.t rfl)) ?_
    refine W.q rfl rfl rfl rfl (by decide) (Yd.mv rfl (.t rfl)) ?_
    refine W.q rfl rfl rfl rfl (by decide) (Yd.call (v := .tuple #[.int .u64 (r1.1.toNat : Int), .int .u64 (r1.2.toNat : Int)]) rfl Try.func87 rfl rfl (.cons (.t rfl) (.cons (.t rfl) .nil)) (fun x' hx w hw => math_bits_Mul64_ok w0 x'.m x'.l x_0 y_1 _ hr2 w hw)) ?_
    refine W.q rfl rfl rfl rfl (by decide) (Yd.mv rfl (.t rfl)) ?_
    refine W.q rfl rfl rfl rfl (by decide) (Yd.ext rfl (.t rfl) rfl) ?_
    refine W.q rfl rfl rfl rfl (by decide) (Yd.ext rfl (.t rfl) rfl) ?_
    refine W.q rfl rfl rfl rfl (by decide) (Yd.as rfl (.t rfl)) ?_
    refine W.q rfl rfl rfl rfl (by decide) (Yd.as rfl (.t rfl)) ?_
    refine W.end ?_
    refine NX.sub (env' := [(8, _), (9, _)]) ⟨rfl, rfl, trivial⟩ ?_
    refine NX.then ?_
    refine Tr.seq ?_
    refine Tr.region_f (fun _ => false) ?_
    refine W.q rfl rfl rfl rfl (by decide) (Yd.mv rfl (.t rfl)) ?_
    refine W.q rfl rfl rfl rfl (by decide) (Yd.mv rfl (.t rfl)) ?_
    refine W.q rfl rfl rfl rfl (by decide) (Yd.as rfl (.t rfl)) ?_
    refine W.q rfl rfl rfl rfl (by decide) (Yd.as rfl (.t rfl)) ?_
    refine W.end ?_
    refine NX.sub (env' := [(4, _), (5, _)]) ⟨rfl, rfl, trivial⟩ ?_
    refine NX.then ?_
    refine Tr.ret' ?_
    refine res2 rfl rfl rfl ?_
    intro w hc
    cases hr
    exact ⟨rfl, hc⟩

def slices_Repeat_Sintint_k14 (l12 : List Int) : Option ((List Int)) :=
  some l12

def slices_Repeat_Sintint_b16 (n_9 : Int) (l10 : List Int) (nx17 : (Int × (List Int)) → Option ((List Int))) : Option ((List Int)) :=
  (bif (decide (n_9 < (l10.length : Int))) then
  bif decide (0 ≤ n_9 ∧ n_9 ≤ (l10.length : Int)) then
  nx17 ((w64 (n_9 + ((Nat.min ((l10.take (n_9.toNat))).length (l10.length - n_9.toNat) : Nat) : Int))), (cpl n_9.toNat l10 ((l10.take (n_9.toNat))))) else none
  else
  slices_Repeat_Sintint_k14 l10)

def slices_Repeat_Sintint (fuel : Nat) (x_0 : List Int) (count_1 : Int) : Option ((List Int)) :=
  (bif (decide (count_1 < (0 : Int))) then
  none
  else
  (math_bits_Mul ((BitVec.ofInt 64 ((x_0.length : Int)))) ((BitVec.ofInt 64 count_1))).bind fun r1 =>
  (bif ((decide (r1.1 > 0#64)) || (decide (r1.2 > 9223372036854775807#64))) then
  none
  else
  bif decide (0 ≤ (w64 (r1.2.toNat : Int)) ∧ (w64 (r1.2.toNat : Int)) ≤ 1048576) then
  whileK (σ := Int × (List Int)) (fun s nx_ => slices_Repeat_Sintint_b16 s.1 s.2 nx_) fuel ((((Nat.min x_0.length (((List.replicate ((w64 (r1.2.toNat : Int))).toNat (0 : Int))).length - 0) : Nat) : Int)), ((cpl 0 ((List.replicate ((w64 (r1.2.toNat : Int))).toNat (0 : Int))) x_0))) else none))

set_option maxRecDepth 100000 in
set_option maxHeartbeats 4000000 in
theorem slices_Repeat_Sintint_ok (w0 : World) (m : Snap) (l : List HI) (fuel : Nat) (ux_0 : Value) (x_0 : List Int) (hx_0 : RS rI m ux_0 x_0) (count_1 : Int) (r : (List Int)) (hr : slices_Repeat_Sintint fuel x_0 count_1 = some r) (w : World) (hc : cX w0 ⟨m, l⟩ w) :
    Calls Try.prog 75 [ux_0, .int .i64 count_1].toArray w fun e w' => ∃ z0 : Value, e = .returned (z0) ∧ cX w0 ⟨m, hownT 3 1 encI z0 r :: l⟩ w' := by
  unfold slices_Repeat_Sintint at hr
  refine calls_of_Tr (N := 48) Try.func75 rfl hc rfl (Nat.le_of_ble_eq_true rfl) ?_
  refine Tr.seq ?_
  refine Tr.region_f (fun _ => false) ?_
  refine W.q rfl rfl rfl rfl (by decide) (Yd.as rfl .c) ?_
  refine W.end ?_
  refine NX.sub (env' := [(0, _), (1, _)]) ⟨rfl, rfl, trivial⟩ ?_
  refine NX.then ?_
  refine Tr.seq ?_
  refine Tr.seq ?_
  refine Tr.region_f (fun _ => false) ?_
  refine W.q rfl rfl rfl rfl (by decide) (Yd.mv rfl (.t rfl)) ?_
  refine W.q rfl rfl rfl rfl (by decide) (Yd.lss rfl (.t rfl) .c) ?_
  refine W.end ?_
  refine NX.sub (env' := [(0, _), (1, _), (10, _)]) ⟨rfl, rfl, rfl, trivial⟩ ?_
  refine NX.then ?_
  refine Tr.cond (.t rfl) (fun hb => ?_) (fun hb => ?_)
  · have hr := cond_t hb hr
    cases hr
  · have hr := cond_f hb hr
    refine Tr.skip' ?_
    refine NX.then ?_
    refine Tr.seq ?_
    obtain ⟨r1, hr2, hr⟩ := bind_some hr
    refine Tr.region_f (fun _ => false) ?_
    refine W.q rfl rfl rfl rfl (by decide) (Yd.mv rfl (.t rfl)) ?_
    refine W.q rfl rfl rfl rfl (by decide) (Yd.lenR hx_0 rfl Try.underlying84 (.t rfl)) ?_
    refine W.q rfl rfl rfl rfl (by decide) (Yd.cvQ rfl US3 Try.underlying139 (.t rfl)) ?_
    refine W.q rfl rfl rfl rfl (by decide) (Yd.mv rfl (.t rfl)) ?_
    refine W.q rfl rfl rfl rfl (by decide) (Yd.cvQ rfl US3 Try.underlying139 (.t rfl)) ?_
    refine W.q rfl rfl rfl rfl (by decide) (Yd.call (v := .tuple #[.int .u64 (r1.1.toNat : Int), .int .u64 (r1.2.toNat : Int)]) rfl Try.func84 rfl rfl (.cons (.t rfl) (.cons (.t rfl) .nil)) (fun x' hx w hw => math_bits_Mul_ok w0 x'.m x'.l ((BitVec.ofInt 64 ((x_0.length : Int)))) ((BitVec.ofInt 64 count_1)) _ hr2 w hw)) ?_
    refine W.q rfl rfl rfl rfl (by decide) (Yd.mv rfl (.t rfl)) ?_
    refine W.q rfl rfl rfl rfl (by decide) (Yd.ext rfl (.t rfl) rfl) ?_
    refine W.q rfl rfl rfl rfl (by decide) (Yd.ext rfl (.t rfl) rfl) ?_
    refine W.q rfl rfl rfl rfl (by decide) (Yd.as rfl (.t rfl)) ?_
    refine W.q rfl rfl rfl rfl (by decide) (Yd.as rfl (.t rfl)) ?_
    refine W.end ?_
    refine NX.sub (env' := [(0, _), (5, _), (6, _)]) ⟨rfl, rfl, rfl, trivial⟩ ?_
    refine NX.then ?_
    refine Tr.seq ?_
    refine Tr.seq ?_
    refine Tr.region_f (fun _ => false) ?_
    refine W.q rfl rfl rfl rfl (by decide) (Yd.mv rfl (.t rfl)) ?_
    refine W.q rfl rfl rfl rfl (by decide) (Yd.gtrU (a := r1.1) (b := 0#64) rfl (.t rfl) .c) ?_
    refine W.q rfl rfl rfl rfl (by decide) (Yd.mv rfl (.t rfl)) ?_
    refine W.g rfl rfl rfl rfl rfl (.t rfl _) rfl (by decide) (fun hG => Yd.mv rfl (.t rfl)) ?_
    refine W.g rfl rfl rfl rfl rfl (.t rfl _) rfl (by decide) (fun hG => Yd.gtrU (a := r1.2) (b := 9223372036854775807#64) rfl (.g rfl hG) .c) ?_
    refine W.q rfl rfl rfl rfl (by decide) (Yd.or rfl (.t rfl) .c rfl rfl) ?_
    refine W.end ?_
    refine NX.sub (env' := [(0, _), (6, _), (26, _)]) ⟨rfl, rfl, rfl, trivial⟩ ?_
    refine NX.then ?_
    refine Tr.cond (.t rfl) (fun hb => ?_) (fun hb => ?_)
    · have hr := cond_t hb hr
      cases hr
    · have hr := cond_f hb hr
      refine Tr.skip' ?_
      refine NX.then ?_
      refine Tr.seq ?_
      obtain ⟨hq3, hr⟩ := guard_some hr; replace hq3 := of_decide_eq_true hq3
      refine Tr.region_f (fun i => Nat.beq i 2) ?_
      refine W.q rfl rfl rfl rfl (by decide) (Yd.mv rfl (.t rfl)) ?_
      refine W.q rfl rfl rfl rfl (by decide) (Yd.cvI rfl US139 Try.underlying3 (.t rfl)) ?_
      refine W.e rfl rfl rfl rfl (by decide) (Ef.mkT (enc := encI) (0 : Int) IF3 rfl Try.underlying84 rfl rfl (by decide) (.t rfl) (.t rfl) (by omega) (by omega) (by omega)) ?_
      rintro v4 _ rfl
      refine ⟨.inl rfl, ?_⟩
      refine W.cast (m' := m) (l' := hownT 3 1 encI v4 _ :: l) rfl rfl ?_
      refine W.q rfl rfl rfl rfl (by decide) (Yd.as rfl (.t rfl)) ?_
      refine W.end ?_
      refine NX.sub (env' := [(0, _), (7, _)]) ⟨rfl, rfl, trivial⟩ ?_
      refine NX.then ?_
      refine Tr.seq ?_
      refine Tr.region_f (fun i => Nat.beq i 2) ?_
      refine W.q rfl rfl rfl rfl (by decide) (Yd.mv rfl (.t rfl)) ?_
      refine W.q rfl rfl rfl rfl (by decide) (Yd.mv rfl (.t rfl)) ?_
      refine W.e rfl rfl rfl rfl (by decide) (Ef.cpT (enc := encI) (n := 1) (fun _ => rfl) (pos := 0) (xs := (List.replicate ((w64 (r1.2.toNat : Int))).toNat (0 : Int))) (ys := x_0) (by decide) rfl rfl Try.underlying84 SZ3 (.t rfl) (.t rfl) (Src.rs (by decide) (.refl _) hx_0) (fun _ => rfl)) ?_
      rintro _ _ ⟨rfl, rfl⟩
      refine ⟨.inl rfl, ?_⟩
      refine W.cast (m' := m) (l' := hownT 3 1 encI v4 _ :: l) rfl rfl ?_
      refine W.q rfl rfl rfl rfl (by decide) (Yd.as rfl (.t rfl)) ?_
      refine W.end ?_
      refine NX.sub (env' := [(7, _), (8, _)]) ⟨rfl, rfl, trivial⟩ ?_
      refine NX.then ?_
      refine Tr.seq ?_
      refine Tr.join (S := fun env x => ∃ l12 : List Int, ∃ v13 : Value, env = [(7, v13)] ∧ x = ⟨m, hownT 3 1 encI v13 l12 :: l⟩ ∧ slices_Repeat_Sintint_k14 l12 = some r) ?_ (fun hk15 => ?_)
      · rintro _ _ ⟨l12, v13, rfl, rfl, hr⟩
        unfold slices_Repeat_Sintint_k14 at hr
        try dsimp only at hr
        refine NX.then ?_
        refine Tr.seq ?_
        refine Tr.region_f (fun _ => false) ?_
        refine W.q rfl rfl rfl rfl (by decide) (Yd.mv rfl (.t rfl)) ?_
        refine W.q rfl rfl rfl rfl (by decide) (Yd.as rfl (.t rfl)) ?_
        refine W.end ?_
        refine NX.sub (env' := [(4, _)]) ⟨rfl, trivial⟩ ?_
        refine NX.then ?_
        refine Tr.ret' ?_
        refine res1 rfl rfl ?_
        intro w hc
        cases hr
        exact ⟨_, rfl, hc⟩
      refine Tr.block ?_
      refine Tr.sub (env' := [(7, _), (8, _)]) ⟨rfl, rfl, trivial⟩ ?_
      refine Tr.loop (S := fun n (z : Int × (List Int)) env x => match z with | (n_9, l10) => ∃ v11 : Value, env = [(7, v11), (8, .int .i64 n_9)] ∧ x = ⟨m, hownT 3 1 encI v11 l10 :: l⟩ ∧ whileK (σ := Int × (List Int)) (fun s nx_ => slices_Repeat_Sintint_b16 s.1 s.2 nx_) n (n_9, l10) = some r) _ (((Nat.min x_0.length (((List.replicate ((w64 (r1.2.toNat : Int))).toNat (0 : Int))).length - 0) : Nat) : Int), (cpl 0 ((List.replicate ((w64 (r1.2.toNat : Int))).toNat (0 : Int))) x_0)) ⟨_, rfl, rfl, hr⟩ ?_
      rintro n18 ⟨n_9, l10⟩ env x ⟨v11, rfl, rfl, hr⟩
      cases n18 with
      | zero => simp [whileK] at hr
      | succ n18 =>
        obtain ⟨nx17, hnx17, hr⟩ := whileK_succ hr
        try dsimp only at hr
        unfold slices_Repeat_Sintint_b16 at hr
        try dsimp only at hr
        refine Tr.seq ?_
        refine Tr.seq ?_
        refine Tr.region_f (fun _ => false) ?_
        refine W.q rfl rfl rfl rfl (by decide) (Yd.mv rfl (.t rfl)) ?_
        refine W.q rfl rfl rfl rfl (by decide) (Yd.mv rfl (.t rfl)) ?_
        refine W.q rfl rfl rfl rfl (by decide) (Yd.lenO (p := 0) rfl rfl Try.underlying84 (.t rfl)) ?_
        refine W.q rfl rfl rfl rfl (by decide) (Yd.lss rfl (.t rfl) (.t rfl)) ?_
        refine W.end ?_
        refine NX.sub (env' := [(7, _), (8, _), (37, _)]) ⟨rfl, rfl, rfl, trivial⟩ ?_
        refine NX.then ?_
        refine Tr.cond (.t rfl) (fun hb => ?_) (fun hb => ?_)
        · have hr := cond_t hb hr
          refine Tr.skip' ?_
          refine NX.then ?_
          refine Tr.block ?_
          obtain ⟨hq19, hr⟩ := guard_some hr; replace hq19 := of_decide_eq_true hq19
          refine Tr.region_x (fun i => Nat.beq i 7) (fun i => Nat.beq i 0 || Nat.beq i 7) (Ord.of [0, 1, 2, 3, 4, 5, 6, 7, 8, 9]) FM (by kernel_rfl) ?_
          refine W.p rfl rfl rfl rfl (by decide) (fun _ => Yd.mv rfl (.t rfl)) ?_
          refine W.q rfl rfl rfl rfl (by decide) (Yd.mv rfl (.t rfl)) ?_
          refine W.q rfl rfl rfl rfl (by decide) (Yd.mv rfl (.t rfl)) ?_
          refine W.q rfl rfl rfl rfl (by decide) (Yd.slFrom (pos := 0) rfl rfl Try.underlying84 SZ3 (.t rfl) (.t rfl) hq19.1 hq19.2) ?_
          refine W.q rfl rfl rfl rfl (by decide) (Yd.mv rfl (.t rfl)) ?_
          refine W.q rfl rfl rfl rfl (by decide) (Yd.mv rfl (.t rfl)) ?_
          refine W.q rfl rfl rfl rfl (by decide) (Yd.slTo (pos := 0) rfl rfl Try.underlying84 (Option.some_get IN3).symm (.t rfl) (.t rfl) hq19.1 hq19.2) ?_
          refine W.e rfl rfl rfl rfl (by decide) (Ef.cpF (enc := encI) (n := 1) (fun _ => rfl) (pos := 0) (lo := n_9.toNat) (xs := l10) (ys := (l10.take (n_9.toNat))) (by decide) rfl (by omega) rfl Try.underlying84 SZ3 (.t rfl) (.t rfl) (Src.toT (enc := encI) (n := 1) (fun _ => rfl) (pos := 0) (h := n_9.toNat) (xs := l10) rfl (by omega)) (fun _ => rfl)) ?_
          rintro _ _ ⟨rfl, rfl⟩
          refine ⟨.inl rfl, ?_⟩
          refine W.cast (m' := m) (l' := hownT 3 1 encI v11 _ :: l) rfl rfl ?_
          refine W.q rfl rfl rfl rfl (by decide) (Yd.add rfl (.t rfl) (.t rfl)) ?_
          refine W.q rfl rfl rfl rfl (by decide) (Yd.as rfl (.t rfl)) ?_
          refine W.end ?_
          refine NX.sub (env' := [(7, _), (8, _)]) ⟨rfl, rfl, trivial⟩ ?_
          refine NX.block ?_
          refine NX.sub (env' := [(7, _), (8, _)]) ⟨rfl, rfl, trivial⟩ ?_
          exact NX.again n18 ((w64 (n_9 + ((Nat.min ((l10.take (n_9.toNat))).length (l10.length - n_9.toNat) : Nat) : Int))), (cpl n_9.toNat l10 ((l10.take (n_9.toNat))))) (Nat.lt_succ_self _) ⟨_, rfl, rfl, ((hnx17 _).symm.trans hr)⟩
        · have hr := cond_f hb hr
          refine Tr.exit' (EX.then (EX.then (EX.block ?_)))
          refine NX.sub (env' := [(7, _)]) ⟨rfl, trivial⟩ ?_
          exact hk15 _ _ ⟨_, _, rfl, rfl, hr⟩

def grant_graph_joined (g_0 : List (List (BitVec 32))) (i_1 : Int) (j_2 : Int) : Option (Bool) :=
  (geti g_0 i_1).bind fun y1 =>
  (geti y1 j_2).bind fun y6 =>
  (geti g_0 j_2).bind fun y8 =>
  (geti y8 i_1).bind fun y13 =>
  some ((((y6 ||| y13) &&& 3#32) != 0#32))

set_option maxRecDepth 100000 in
set_option maxHeartbeats 4000000 in
theorem grant_graph_joined_ok (w0 : World) (m : Snap) (l : List HI) (ug_0 : Value) (g_0 : List (List (BitVec 32))) (hg_0 : RS (Rp.slice rU) m ug_0 g_0) (i_1 : Int) (j_2 : Int) (r : Bool) (hr : grant_graph_joined g_0 i_1 j_2 = some r) (w : World) (hc : cX w0 ⟨m, l⟩ w) :
    Calls Try.prog 76 [ug_0, .int .i64 i_1, .int .i64 j_2].toArray w fun e w' => e = .returned (.bool r) ∧ cX w0 ⟨m, l⟩ w' := by
  unfold grant_graph_joined at hr
  refine calls_of_Tr (N := 24) Try.func76 rfl hc rfl (Nat.le_of_ble_eq_true rfl) ?_
  refine Tr.seq ?_
  refine Tr.region_f (fun _ => false) ?_
  refine W.q rfl rfl rfl rfl (by decide) (Yd.as rfl .c) ?_
  refine W.end ?_
  refine NX.sub (env' := [(0, _), (1, _), (2, _)]) ⟨rfl, rfl, rfl, trivial⟩ ?_
  refine NX.then ?_
  refine Tr.seq ?_
  obtain ⟨y1, hy2, hr⟩ := bind_some hr
  obtain ⟨y6, hy7, hr⟩ := bind_some hr
  obtain ⟨y8, hy9, hr⟩ := bind_some hr
  obtain ⟨y13, hy14, hr⟩ := bind_some hr
  refine Tr.region_x (fun _ => false) (fun _ => false) (Ord.of [0, 1, 2, 3, 4, 5, 6, 7, 8, 9, 10, 11, 12, 13, 14, 15, 16, 17]) FM (by kernel_rfl) ?_
  refine W.q rfl rfl rfl rfl (by decide) (Yd.mv rfl (.t rfl)) ?_
  refine W.q rfl rfl rfl rfl (by decide) (Yd.mv rfl (.t rfl)) ?_
  refine W.q rfl rfl rfl rfl (by decide) (Yd.idxR hg_0 hy2 rfl Try.underlying95 SZ38 (.t rfl) (.t rfl)) ?_
  obtain ⟨u3, hu4, hat5⟩ := hg_0.row hy2
  refine W.q rfl rfl rfl rfl (by decide) (Yd.ldRow hat5 (.refl _) rfl ON38 (.t rfl)) ?_
  refine W.q rfl rfl rfl rfl (by decide) (Yd.mv rfl (.t rfl)) ?_
  refine W.q rfl rfl rfl rfl (by decide) (Yd.idxR hu4 hy7 rfl Try.underlying38 SZ33 (.t rfl) (.t rfl)) ?_
  refine W.q rfl rfl rfl rfl (by decide) (Yd.ldF hu4 (.refl _) hy7 rfl rfl ON33 (.t rfl)) ?_
  refine W.q rfl rfl rfl rfl (by decide) (Yd.mv rfl (.t rfl)) ?_
  refine W.q rfl rfl rfl rfl (by decide) (Yd.mv rfl (.t rfl)) ?_
  refine W.q rfl rfl rfl rfl (by decide) (Yd.idxR hg_0 hy9 rfl Try.underlying95 SZ38 (.t rfl) (.t rfl)) ?_
  obtain ⟨u10, hu11, hat12⟩ := hg_0.row hy9
  refine W.q rfl rfl rfl rfl (by decide) (Yd.ldRow hat12 (.refl _) rfl ON38 (.t rfl)) ?_
  refine W.q rfl rfl rfl rfl (by decide) (Yd.mv rfl (.t rfl)) ?_
  refine W.q rfl rfl rfl rfl (by decide) (Yd.idxR hu11 hy14 rfl Try.underlying38 SZ33 (.t rfl) (.t rfl)) ?_
  refine W.q rfl rfl rfl rfl (by decide) (Yd.ldF hu11 (.refl _) hy14 rfl rfl ON33 (.t rfl)) ?_
  refine W.q rfl rfl rfl rfl (by decide) (Yd.orU (a := y6) (b := y13) rfl (.t rfl) (.t rfl)) ?_
  refine W.q rfl rfl rfl rfl (by decide) (Yd.andU (a := (y6 ||| y13)) (b := 3#32) rfl (.t rfl) .c) ?_
  refine W.q rfl rfl rfl rfl (by decide) (Yd.neqU (a := ((y6 ||| y13) &&& 3#32)) (b := 0#32) rfl (.t rfl) .c) ?_
  refine W.q rfl rfl rfl rfl (by decide) (Yd.as rfl (.t rfl)) ?_
  refine W.end ?_
  refine NX.sub (env' := [(6, _)]) ⟨rfl, trivial⟩ ?_
  refine NX.then ?_
  refine Tr.ret' ?_
  refine res1 rfl rfl ?_
  intro w hc
  cases hr
  exact ⟨rfl, hc⟩

def grant_graph_path_k23 : Option ((List Int)) :=
  some ([])

def grant_graph_path_k45 (l43 : List Int) : Option ((List Int)) :=
  bif decide (0 < l43.length) then
  some l43 else none

def grant_graph_path_b47 (x_1 : Int) (l17 : List Int) (i_40 : Int) (l41 : List Int) (nx48 : (Int × (List Int)) → Option ((List Int))) : Option ((List Int)) :=
  (bif (i_40 != x_1) then
  (geti l17 i_40).bind fun y50 =>
  bif decide (l41.length + (([y50] : List Int)).length ≤ 17592186044416) then
  (geti l17 i_40).bind fun y56 =>
  nx48 (y56, (l41 ++ ([y50] : List Int))) else none
  else
  grant_graph_path_k45 l41)

def grant_graph_path_k72 (nx26 : (((List Int) × (List Int)) → Option ((List Int)))) (l68 : List Int) (l70 : List Int) : Option ((List Int)) :=
  bif decide (0 ≤ (1 : Int) ∧ (1 : Int) ≤ (l68.length : Int)) then
  nx26 ((l68.drop ((1 : Int)).toNat), l70) else none

def grant_graph_path_b77 (g_0 : List (List (BitVec 32))) (y28 : Int) (t_76 : Int) (l64 : List Int) (l66 : List Int) (nx78 : ((List Int) × (List Int)) → Option ((List Int))) : Option ((List Int)) :=
  (geti l66 t_76).bind fun y80 =>
  bif (!((decide (y80 < (0 : Int))) == true) || (grant_graph_joined g_0 y28 t_76).isSome) then
  (bif ((decide (y80 < (0 : Int))) && (((grant_graph_joined g_0 y28 t_76).getD false))) then
  (geti l66 t_76).bind fun y83 =>
  bif decide (l64.length + (([t_76] : List Int)).length ≤ 17592186044416) then
  nx78 ((l64 ++ ([t_76] : List Int)), (l66.set t_76.toNat y28)) else none
  else
  nx78 (l64, l66)) else none

def grant_graph_path_b25 (g_0 : List (List (BitVec 32))) (x_1 : Int) (y_2 : Int) (right_3 : (BitVec 32)) (fuel : Nat) (l15 : List Int) (l17 : List Int) (nx26 : ((List Int) × (List Int)) → Option ((List Int))) : Option ((List Int)) :=
  (bif (decide ((l15.length : Int) > (0 : Int))) then
  (geti l15 ((0 : Int))).bind fun y28 =>
  bif (!((y28 != y_2) == true) || (geti g_0 y28).isSome) then
  bif (!((y28 != y_2) == true) || (geti (((geti g_0 y28).getD [])) y_2).isSome) then
  (bif ((y28 != y_2) && ((((geti (((geti g_0 y28).getD [])) y_2).getD (0#32)) &&& right_3) != 0#32)) then
  whileK (σ := Int × (List Int)) (fun s nx_ => grant_graph_path_b47 x_1 l17 s.1 s.2 nx_) fuel (y28, (([y28] : List Int)))
  else
  forK (σ := (List Int) × (List Int)) (fun i s nx_ => grant_graph_path_b77 g_0 y28 i s.1 s.2 nx_) (fun s => grant_graph_path_k72 nx26 s.1 s.2) ((g_0.length : Int) - (0 : Int)).toNat (0 : Int) (l15, l17)) else none else none
  else
  grant_graph_path_k23)

def grant_graph_path (fuel : Nat) (g_0 : List (List (BitVec 32))) (x_1 : Int) (y_2 : Int) (right_3 : (BitVec 32)) : Option ((List Int)) :=
  (slices_Repeat_Sintint fuel (([(-1 : Int)] : List Int)) ((g_0.length : Int))).bind fun r3 =>
  (geti r3 x_1).bind fun y7 =>
  whileK (σ := (List Int) × (List Int)) (fun s nx_ => grant_graph_path_b25 g_0 x_1 y_2 right_3 fuel s.1 s.2 nx_) fuel ((([x_1] : List Int)), ((r3.set x_1.toNat x_1)))

set_option maxRecDepth 100000 in
set_option maxHeartbeats 4000000 in
theorem grant_graph_path_ok (w0 : World) (m : Snap) (l : List HI) (fuel : Nat) (ug_0 : Value) (g_0 : List (List (BitVec 32))) (hg_0 : RS (Rp.slice rU) m ug_0 g_0) (x_1 : Int) (y_2 : Int) (right_3 : (BitVec 32)) (r : (List Int)) (hr : grant_graph_path fuel g_0 x_1 y_2 right_3 = some r) (w : World) (hc : cX w0 ⟨m, l⟩ w) :
    Calls Try.prog 50 [ug_0, .int .i64 x_1, .int .i64 y_2, .int .u32 (right_3.toNat : Int)].toArray w fun e w' => ∃ z0 : Value, e = .returned (z0) ∧ (r = [] → z0 = .slice none 0 0) ∧ cX w0 ⟨m, hownT 3 1 encI z0 r :: l⟩ w' := by
  unfold grant_graph_path at hr
  refine calls_of_Tr (N := 89) Try.func50 rfl hc rfl (Nat.le_of_ble_eq_true rfl) ?_
  refine Tr.seq ?_
  refine Tr.region_f (fun _ => false) ?_
  refine W.q rfl rfl rfl rfl (by decide) (Yd.as rfl .c) ?_
  refine W.end ?_
  refine NX.sub (env' := [(0, _), (1, _), (2, _), (3, _)]) ⟨rfl, rfl, rfl, rfl, trivial⟩ ?_
  refine NX.then ?_
  refine Tr.seq ?_
  obtain ⟨r3, hr4, hr⟩ := bind_some hr
  refine Tr.region_f (fun i => Nat.beq i 0 || Nat.beq i 3) ?_
  refine W.e rfl rfl rfl rfl (by decide) (Ef.bsT (enc := encI) (vs := [_]) (ys := [(-1 : Int)]) (fun _ => rfl) IF3 rfl Try.underlying84 (by decide) rfl (.cons .c .nil) rfl rfl (by decide)) ?_
  rintro v1 _ rfl
  refine ⟨.inl rfl, ?_⟩
  refine W.cast (m' := m) (l' := hownT 3 1 encI v1 _ :: l) rfl rfl ?_
  refine W.q rfl rfl rfl rfl (by decide) (Yd.mv rfl (.t rfl)) ?_
  refine W.q rfl rfl rfl rfl (by decide) (Yd.lenR hg_0 rfl Try.underlying95 (.t rfl)) ?_
  refine W.e rfl rfl rfl rfl (by decide) (Ef.call (R := fun z x' => ∃ v5 : Value, z = v5 ∧ x' = ⟨m, hownT 3 1 encI v5 r3 :: hownT 3 1 encI v1 (([(-1 : Int)] : List Int)) :: l⟩) rfl Try.func75 rfl rfl (.cons (.t rfl) (.cons (.t rfl) .nil)) (by intro w hw; obtain ⟨m2, hm2, hc2, ⟨L2, hl1, hl2⟩, hback⟩ := cX_lend (p := 0) hw rfl lone_own; have hL1 : RS rI m2 _ _ := RS_of_own hl1 hl2; exact (slices_Repeat_Sintint_ok w0 m2 _ fuel _ _ hL1 ((g_0.length : Int)) _ hr4 w hc2).mono fun e w' ⟨v5, he, hc'⟩ => ⟨_, _, he, ⟨v5, rfl, rfl⟩, (hback m2 _ 1 w' (.refl _) rfl).2 hc'⟩)) ?_
  rintro v5 _ ⟨_, rfl, rfl⟩
  refine ⟨.inl rfl, ?_⟩
  refine W.cast (m' := m) (l' := hownT 3 1 encI v5 _ :: hownT 3 1 encI v1 _ :: l) rfl rfl ?_
  refine W.q rfl rfl rfl rfl (by decide) (Yd.as rfl (.t rfl)) ?_
  refine W.end ?_
  refine NX.sub (env' := [(0, _), (1, _), (2, _), (3, _), (9, _)]) ⟨rfl, rfl, rfl, rfl, rfl, trivial⟩ ?_
  refine NX.drop (l' := hownT 3 1 encI v5 _ :: l) (.cons_cons _ (.cons _ (.refl _))) ?_
  refine NX.then ?_
  refine Tr.seq ?_
  obtain ⟨y7, hy8, hr⟩ := bind_some hr
  refine Tr.region_f (fun i => Nat.beq i 4) ?_
  refine W.q rfl rfl rfl rfl (by decide) (Yd.mv rfl (.t rfl)) ?_
  refine W.q rfl rfl rfl rfl (by decide) (Yd.mv rfl (.t rfl)) ?_
  refine W.q rfl rfl rfl rfl (by decide) (Yd.mv rfl (.t rfl)) ?_
  refine W.q rfl rfl rfl rfl (by decide) (Yd.idxT (pos := 0) rfl hy8 rfl Try.underlying84 SZ3 (.t rfl) (.t rfl)) ?_
  refine W.s rfl rfl rfl rfl (Ef.stT (enc := encI) (n := 1) (pos := 0) (y := x_1) (us := [_]) (fun _ => rfl) rfl hy8 rfl (.t rfl) (.t rfl) SZ3 rfl rfl rfl (by decide)) ?_
  rintro _ _ ⟨rfl, rfl⟩
  refine ⟨.inl rfl, ?_⟩
  refine W.cast (m' := m) (l' := hownT 3 1 encI v5 _ :: l) rfl rfl ?_
  refine W.end ?_
  refine NX.sub (env' := [(0, _), (1, _), (2, _), (3, _), (9, _)]) ⟨rfl, rfl, rfl, rfl, rfl, trivial⟩ ?_
  refine NX.then ?_
  refine Tr.seq ?_
  refine Tr.seq ?_
  refine Tr.region_f (fun i => Nat.beq i 1) ?_
  refine W.q rfl rfl rfl rfl (by decide) (Yd.mv rfl (.t rfl)) ?_
  refine W.e rfl rfl rfl rfl (by decide) (Ef.bsT (enc := encI) (vs := [_]) (ys := [x_1]) (fun _ => rfl) IF3 rfl Try.underlying84 (by decide) rfl (.cons (.t rfl) .nil) rfl rfl (by decide)) ?_
  rintro v9 _ rfl
  refine ⟨.inl rfl, ?_⟩
  refine W.cast (m' := m) (l' := hownT 3 1 encI v9 _ :: hownT 3 1 encI v5 _ :: l) rfl rfl ?_
  refine W.q rfl rfl rfl rfl (by decide) (Yd.as rfl (.t rfl)) ?_
  refine W.end ?_
  refine NX.imp (fun w hw => cX_toQ (p := 0) rfl hw) ?_
  refine NX.cast (m' := m) (l' := hqT 3 1 encI v9 (([x_1] : List Int)) :: hownT 3 1 encI v5 ((r3.set x_1.toNat x_1)) :: l) rfl rfl ?_
  refine NX.sub (env' := [(0, _), (1, _), (2, _), (3, _), (9, _), (10, _)]) ⟨rfl, rfl, rfl, rfl, rfl, rfl, trivial⟩ ?_
  refine NX.then ?_
  refine Tr.join (S := fun env x => env = [] ∧ x = ⟨m, l⟩ ∧ grant_graph_path_k23 = some r) ?_ (fun hk24 => ?_)
  · rintro _ _ ⟨rfl, rfl, hr⟩
    unfold grant_graph_path_k23 at hr
    try dsimp only at hr
    refine NX.then ?_
    refine Tr.seq ?_
    refine Tr.region_f (fun _ => false) ?_
    refine W.q rfl rfl rfl rfl (by decide) (Yd.as rfl .c) ?_
    refine W.end ?_
    refine NX.sub (env' := [(8, _)]) ⟨rfl, trivial⟩ ?_
    refine NX.then ?_
    refine Tr.ret' ?_
    refine res1 rfl rfl ?_
    intro w hc
    cases hr
    exact ⟨_, rfl, (fun _ => rfl), (cX_nil hc)⟩
  refine Tr.block ?_
  refine Tr.sub (env' := [(0, _), (1, _), (2, _), (3, _), (9, _), (10, _)]) ⟨rfl, rfl, rfl, rfl, rfl, rfl, trivial⟩ ?_
  refine Tr.loop (S := fun n (z : (List Int) × (List Int)) env x => match z with | (l15, l17) => ∃ v16 : Value, ∃ v18 : Value, env = [(0, ug_0), (1, .int .i64 x_1), (2, .int .i64 y_2), (3, .int .u32 (right_3.toNat : Int)), (9, v18), (10, v16)] ∧ x = ⟨m, hqT 3 1 encI v16 l15 :: hownT 3 1 encI v18 l17 :: l⟩ ∧ whileK (σ := (List Int) × (List Int)) (fun s nx_ => grant_graph_path_b25 g_0 x_1 y_2 right_3 fuel s.1 s.2 nx_) n (l15, l17) = some r) _ (([x_1] : List Int), (r3.set x_1.toNat x_1)) ⟨_, _, rfl, rfl, hr⟩ ?_
  rintro n27 ⟨l15, l17⟩ env x ⟨v16, v18, rfl, rfl, hr⟩
  cases n27 with
  | zero => simp [whileK] at hr
  | succ n27 =>
    obtain ⟨nx26, hnx26, hr⟩ := whileK_succ hr
    try dsimp only at hr
    unfold grant_graph_path_b25 at hr
    try dsimp only at hr
    refine Tr.seq ?_
    refine Tr.seq ?_
    refine Tr.region_f (fun _ => false) ?_
    refine W.q rfl rfl rfl rfl (by decide) (Yd.mv rfl (.t rfl)) ?_
    refine W.q rfl rfl rfl rfl (by decide) (Yd.lenQ (p := 0) rfl rfl Try.underlying84 (.t rfl)) ?_
    refine W.q rfl rfl rfl rfl (by decide) (Yd.gtr rfl (.t rfl) .c) ?_
    refine W.end ?_
    refine NX.sub (env' := [(0, _), (1, _), (2, _), (3, _), (9, _), (10, _), (26, _)]) ⟨rfl, rfl, rfl, rfl, rfl, rfl, rfl, trivial⟩ ?_
    refine NX.then ?_
    refine Tr.cond (.t rfl) (fun hb => ?_) (fun hb => ?_)
    · have hr := cond_t hb hr
      refine Tr.skip' ?_
      refine NX.then ?_
      refine Tr.seq ?_
      refine Tr.block ?_
      refine Tr.seq ?_
      obtain ⟨y28, hy29, hr⟩ := bind_some hr
      refine Tr.region_f (fun _ => false) ?_
      refine W.q rfl rfl rfl rfl (by decide) (Yd.mv rfl (.t rfl)) ?_
      refine W.q rfl rfl rfl rfl (by decide) (Yd.idxQ (pos := 0) (enc := encI) (n := 1) rfl hy29 rfl Try.underlying84 SZ3 (.t rfl) .c) ?_
      refine W.q rfl rfl rfl rfl (by decide) (Yd.ldQ (enc := encI) (n := 1) (pos := 0) (fun _ => rfl) rfl hy29 rfl rfl ON3 (.t rfl)) ?_
      refine W.q rfl rfl rfl rfl (by decide) (Yd.as rfl (.t rfl)) ?_
      refine W.end ?_
      refine NX.sub (env' := [(0, _), (1, _), (2, _), (3, _), (9, _), (10, _), (11, _)]) ⟨rfl, rfl, rfl, rfl, rfl, rfl, rfl, trivial⟩ ?_
      refine NX.then ?_
      refine Tr.seq ?_
      refine Tr.seq ?_
      obtain ⟨ha30, hr⟩ := guard_some hr
      obtain ⟨ha34, hr⟩ := guard_some hr
      refine Tr.region_f (fun _ => false) ?_
      refine W.q rfl rfl rfl rfl (by decide) (Yd.mv rfl (.t rfl)) ?_
      refine W.q rfl rfl rfl rfl (by decide) (Yd.mv rfl (.t rfl)) ?_
      refine W.q rfl rfl rfl rfl (by decide) (Yd.neq rfl (.t rfl) (.t rfl)) ?_
      refine W.q rfl rfl rfl rfl (by decide) (Yd.mv rfl (.t rfl)) ?_
      refine W.g rfl rfl rfl rfl rfl (.t rfl _) rfl (by decide) (fun hG => Yd.mv rfl (.t rfl)) ?_
      refine W.g rfl rfl rfl rfl rfl (.t rfl _) rfl (by decide) (fun hG => Yd.mv rfl (.t rfl)) ?_
      refine W.g rfl rfl rfl rfl rfl (.t rfl _) rfl (by decide) (fun hG => Yd.idxR hg_0 (gd_get (d := []) ha30 hG) rfl Try.underlying95 SZ38 (.g rfl hG) (.g rfl hG)) ?_
      obtain ⟨u31, hu32⟩ := RS.rowD hg_0 (i := y28)
      refine W.g rfl rfl rfl rfl rfl (.t rfl _) rfl (by decide) (fun hG => Yd.ldRow (hu32 _ (gd_get (d := []) ha30 hG)).2 (.refl _) rfl ON38 (.g rfl hG)) ?_
      refine W.g rfl rfl rfl rfl rfl (.t rfl _) rfl (by decide) (fun hG => Yd.mv rfl (.t rfl)) ?_
      refine W.g rfl rfl rfl rfl rfl (.t rfl _) rfl (by decide) (fun hG => Yd.idxR (hu32 _ (gd_get (d := []) ha30 hG)).1 (gd_get (d := (0#32)) ha34 hG) rfl Try.underlying38 SZ33 (.g rfl hG) (.g rfl hG)) ?_
      refine W.g rfl rfl rfl rfl rfl (.t rfl _) rfl (by decide) (fun hG => Yd.ldF (hu32 _ (gd_get (d := []) ha30 hG)).1 (.refl _) (gd_get (d := (0#32)) ha34 hG) rfl rfl ON33 (.g rfl hG)) ?_
      refine W.g rfl rfl rfl rfl rfl (.t rfl _) rfl (by decide) (fun hG => Yd.mv rfl (.t rfl)) ?_
      refine W.g rfl rfl rfl rfl rfl (.t rfl _) rfl (by decide) (fun hG => Yd.andU (a := ((geti (((geti g_0 y28).getD [])) y_2).getD (0#32))) (b := right_3) rfl (.g rfl hG) (.g rfl hG)) ?_
      refine W.g rfl rfl rfl rfl rfl (.t rfl _) rfl (by decide) (fun hG => Yd.neqU (a := (((geti (((geti g_0 y28).getD [])) y_2).getD (0#32)) &&& right_3)) (b := 0#32) rfl (.g rfl hG) .c) ?_
      refine W.q rfl rfl rfl rfl (by decide) (Yd.and rfl (.t rfl) .c rfl rfl) ?_
      refine W.end ?_
      refine NX.sub (env' := [(0, _), (1, _), (2, _), (3, _), (9, _), (10, _), (11, _), (46, _)]) ⟨rfl, rfl, rfl, rfl, rfl, rfl, rfl, rfl, trivial⟩ ?_
      refine NX.then ?_
      refine Tr.cond (.t rfl) (fun hb => ?_) (fun hb => ?_)
      · have hr := cond_t hb hr
        refine Tr.seq ?_
        refine Tr.region_f (fun i => Nat.beq i 1) ?_
        refine W.q rfl rfl rfl rfl (by decide) (Yd.mv rfl (.t rfl)) ?_
        refine W.e rfl rfl rfl rfl (by decide) (Ef.bsT (enc := encI) (vs := [_]) (ys := [y28]) (fun _ => rfl) IF3 rfl Try.underlying84 (by decide) rfl (.cons (.t rfl) .nil) rfl rfl (by decide)) ?_
        rintro v35 _ rfl
        refine ⟨.inl rfl, ?_⟩
        refine W.cast (m' := m) (l' := hownT 3 1 encI v35 _ :: hqT 3 1 encI v16 _ :: hownT 3 1 encI v18 _ :: l) rfl rfl ?_
        refine W.q rfl rfl rfl rfl (by decide) (Yd.as rfl (.t rfl)) ?_
        refine W.end ?_
        refine NX.sub (env' := [(1, _), (9, _), (11, _), (12, _)]) ⟨rfl, rfl, rfl, rfl, trivial⟩ ?_
        refine NX.drop (l' := hownT 3 1 encI v35 _ :: hownT 3 1 encI v18 _ :: l) (.cons_cons _ (.cons _ (.cons_cons _ (.refl _)))) ?_
        refine NX.then ?_
        refine Tr.seq ?_
        refine Tr.join (S := fun env x => ∃ l43 : List Int, ∃ v44 : Value, env = [(12, v44)] ∧ x = ⟨m, hownT 3 1 encI v44 l43 :: l⟩ ∧ grant_graph_path_k45 l43 = some r) ?_ (fun hk46 => ?_)
        · rintro _ _ ⟨l43, v44, rfl, rfl, hr⟩
          unfold grant_graph_path_k45 at hr
          try dsimp only at hr
          refine NX.then ?_
          refine Tr.seq ?_
          refine Tr.region_f (fun _ => false) ?_
          refine W.q rfl rfl rfl rfl (by decide) (Yd.mv rfl (.t rfl)) ?_
          refine W.q rfl rfl rfl rfl (by decide) (Yd.as rfl (.t rfl)) ?_
          refine W.end ?_
          refine NX.sub (env' := [(8, _)]) ⟨rfl, trivial⟩ ?_
          refine NX.then ?_
          refine Tr.ret' (RT.then (RT.block (RT.then (RT.then (RT.block (RT.then ?_))))))
          obtain ⟨hnn, hr⟩ := guard_some hr; replace hnn := of_decide_eq_true hnn
          refine res1 rfl rfl ?_
          intro w hc
          cases hr
          exact ⟨_, rfl, (fun h => by simp [h] at hnn), hc⟩
        refine Tr.block ?_
        refine Tr.sub (env' := [(1, _), (9, _), (11, _), (12, _)]) ⟨rfl, rfl, rfl, rfl, trivial⟩ ?_
        refine Tr.loop (S := fun n (z : Int × (List Int)) env x => match z with | (i_40, l41) => ∃ v42 : Value, env = [(1, .int .i64 x_1), (9, v18), (11, .int .i64 i_40), (12, v42)] ∧ x = ⟨m, hownT 3 1 encI v42 l41 :: hownT 3 1 encI v18 l17 :: l⟩ ∧ whileK (σ := Int × (List Int)) (fun s nx_ => grant_graph_path_b47 x_1 l17 s.1 s.2 nx_) n (i_40, l41) = some r) _ (y28, ([y28] : List Int)) ⟨_, rfl, rfl, hr⟩ ?_
        rintro n49 ⟨i_40, l41⟩ env x ⟨v42, rfl, rfl, hr⟩
        cases n49 with
        | zero => simp [whileK] at hr
        | succ n49 =>
          obtain ⟨nx48, hnx48, hr⟩ := whileK_succ hr
          try dsimp only at hr
          unfold grant_graph_path_b47 at hr
          try dsimp only at hr
          refine Tr.seq ?_
          refine Tr.seq ?_
          refine Tr.region_f (fun _ => false) ?_
          refine W.q rfl rfl rfl rfl (by decide) (Yd.mv rfl (.t rfl)) ?_
          refine W.q rfl rfl rfl rfl (by decide) (Yd.mv rfl (.t rfl)) ?_
          refine W.q rfl rfl rfl rfl (by decide) (Yd.neq rfl (.t rfl) (.t rfl)) ?_
          refine W.end ?_
          refine NX.sub (env' := [(1, _), (9, _), (11, _), (12, _), (51, _)]) ⟨rfl, rfl, rfl, rfl, rfl, trivial⟩ ?_
          refine NX.then ?_
          refine Tr.cond (.t rfl) (fun hb => ?_) (fun hb => ?_)
          · have hr := cond_t hb hr
            refine Tr.skip' ?_
            refine NX.then ?_
            refine Tr.seq ?_
            refine Tr.block ?_
            obtain ⟨y50, hy51, hr⟩ := bind_some hr
            obtain ⟨hq55, hr⟩ := guard_some hr; replace hq55 := of_decide_eq_true hq55
            refine Tr.region_f (fun i => Nat.beq i 5 || Nat.beq i 6) ?_
            refine W.q rfl rfl rfl rfl (by decide) (Yd.mv rfl (.t rfl)) ?_
            refine W.q rfl rfl rfl rfl (by decide) (Yd.mv rfl (.t rfl)) ?_
            refine W.q rfl rfl rfl rfl (by decide) (Yd.mv rfl (.t rfl)) ?_
            refine W.q rfl rfl rfl rfl (by decide) (Yd.idxT (pos := 1) rfl hy51 rfl Try.underlying84 SZ3 (.t rfl) (.t rfl)) ?_
            refine W.q rfl rfl rfl rfl (by decide) (Yd.ldT (enc := encI) (n := 1) (pos := 1) (fun _ => rfl) rfl hy51 rfl rfl ON3 (.t rfl)) ?_
            refine W.e rfl rfl rfl rfl (by decide) (Ef.bsT (enc := encI) (vs := [_]) (ys := [y50]) (fun _ => rfl) IF3 rfl Try.underlying84 (by decide) rfl (.cons (.t rfl) .nil) rfl rfl (by decide)) ?_
            rintro v52 _ rfl
            refine ⟨.inl rfl, ?_⟩
            refine W.cast (m' := m) (l' := hownT 3 1 encI v52 _ :: hownT 3 1 encI v42 _ :: hownT 3 1 encI v18 _ :: l) rfl rfl ?_
            refine W.e rfl rfl rfl rfl (by decide) (Ef.apI (pos := 1) (enc := encI) (xs := l41) (ys := ([y50] : List Int)) (fun _ => rfl) IF3 rfl rfl Try.underlying84 rfl (by decide) (.t rfl) (.t rfl) (Src.own (pos := 0) rfl) (fun _ => rfl) (by omega) (by omega)) ?_
            rintro v54 _ rfl
            refine ⟨.inl rfl, ?_⟩
            refine W.cast (m' := m) (l' := hownT 3 1 encI v52 _ :: hownT 3 1 encI v54 _ :: hownT 3 1 encI v18 _ :: l) rfl rfl ?_
            refine W.q rfl rfl rfl rfl (by decide) (Yd.as rfl (.t rfl)) ?_
            refine W.end ?_
            refine NX.sub (env' := [(1, _), (9, _), (11, _), (12, _)]) ⟨rfl, rfl, rfl, rfl, trivial⟩ ?_
            refine NX.drop (l' := hownT 3 1 encI v54 _ :: hownT 3 1 encI v18 _ :: l) (.cons _ (.cons_cons _ (.cons_cons _ (.refl _)))) ?_
            refine NX.block ?_
            refine NX.then ?_
            obtain ⟨y56, hy57, hr⟩ := bind_some hr
            refine Tr.region_f (fun _ => false) ?_
            refine W.q rfl rfl rfl rfl (by decide) (Yd.mv rfl (.t rfl)) ?_
            refine W.q rfl rfl rfl rfl (by decide) (Yd.mv rfl (.t rfl)) ?_
            refine W.q rfl rfl rfl rfl (by decide) (Yd.idxT (pos := 1) rfl hy57 rfl Try.underlying84 SZ3 (.t rfl) (.t rfl)) ?_
            refine W.q rfl rfl rfl rfl (by decide) (Yd.ldT (enc := encI) (n := 1) (pos := 1) (fun _ => rfl) rfl hy57 rfl rfl ON3 (.t rfl)) ?_
            refine W.q rfl rfl rfl rfl (by decide) (Yd.as rfl (.t rfl)) ?_
            refine W.end ?_
            refine NX.sub (env' := [(1, _), (9, _), (11, _), (12, _)]) ⟨rfl, rfl, rfl, rfl, trivial⟩ ?_
            refine NX.sub (env' := [(1, _), (9, _), (11, _), (12, _)]) ⟨rfl, rfl, rfl, rfl, trivial⟩ ?_
            exact NX.again n49 (y56, (l41 ++ ([y50] : List Int))) (Nat.lt_succ_self _) ⟨_, rfl, rfl, ((hnx48 _).symm.trans hr)⟩
          · have hr := cond_f hb hr
            refine Tr.exit' (EX.then (EX.then (EX.block ?_)))
            refine NX.sub (env' := [(12, _)]) ⟨rfl, trivial⟩ ?_
            refine NX.drop (l' := hownT 3 1 encI v42 _ :: l) (.cons_cons _ (.cons _ (.refl _))) ?_
            exact hk46 _ _ ⟨_, _, rfl, rfl, hr⟩
      · have hr := cond_f hb hr
        refine Tr.skip' ?_
        refine NX.then ?_
        refine Tr.seq ?_
        refine Tr.region_f (fun _ => false) ?_
        refine W.q rfl rfl rfl rfl (by decide) (Yd.mv rfl (.t rfl)) ?_
        refine W.q rfl rfl rfl rfl (by decide) (Yd.lenR hg_0 rfl Try.underlying95 (.t rfl)) ?_
        refine W.q rfl rfl rfl rfl (by decide) (Yd.mv rfl .c) ?_
        refine W.end ?_
        refine NX.sub (env' := [(0, _), (1, _), (2, _), (3, _), (9, _), (10, _), (11, _), (65, _), (66, _)]) ⟨rfl, rfl, rfl, rfl, rfl, rfl, rfl, rfl, rfl, trivial⟩ ?_
        refine NX.then ?_
        refine Tr.join (S := fun env x => ∃ l68 : List Int, ∃ l70 : List Int, ∃ v69 : Value, ∃ v71 : Value, env = [(0, ug_0), (1, .int .i64 x_1), (2, .int .i64 y_2), (3, .int .u32 (right_3.toNat : Int)), (9, v71), (10, v69)] ∧ x = ⟨m, hqT 3 1 encI v69 l68 :: hownT 3 1 encI v71 l70 :: l⟩ ∧ grant_graph_path_k72 nx26 l68 l70 = some r) ?_ (fun hk73 => ?_)
        · rintro _ _ ⟨l68, l70, v69, v71, rfl, rfl, hr⟩
          unfold grant_graph_path_k72 at hr
          try dsimp only at hr
          refine NX.block ?_
          refine NX.then ?_
          obtain ⟨hq74, hr⟩ := guard_some hr; replace hq74 := of_decide_eq_true hq74
          refine Tr.region_f (fun _ => false) ?_
          refine W.q rfl rfl rfl rfl (by decide) (Yd.mv rfl (.t rfl)) ?_
          refine W.q rfl rfl rfl rfl (by decide) (Yd.slFromQ (pos := 0) rfl rfl Try.underlying84 SZ3 (.t rfl) .c hq74.1 hq74.2) ?_
          refine W.q rfl rfl rfl rfl (by decide) (Yd.as rfl (.t rfl)) ?_
          refine W.end ?_
          refine NX.imp (fun w hw => cX_dropQT (enc := encI) (n := 1) (p := 0) (h := ((1 : Int)).toNat) (xs := l68) (fun _ => rfl) (by have := hq74; omega) rfl hw) ?_
          refine NX.cast (m' := m) (l' := hqT 3 1 encI (Sy.slFrom 1 v69 ((1 : Int)).toNat) ((l68.drop ((1 : Int)).toNat)) :: hownT 3 1 encI v71 l70 :: l) rfl rfl ?_
          refine NX.sub (env' := [(0, _), (1, _), (2, _), (3, _), (9, _), (10, _)]) ⟨rfl, rfl, rfl, rfl, rfl, rfl, trivial⟩ ?_
          refine NX.sub (env' := [(0, _), (1, _), (2, _), (3, _), (9, _), (10, _)]) ⟨rfl, rfl, rfl, rfl, rfl, rfl, trivial⟩ ?_
          exact NX.again n27 ((l68.drop ((1 : Int)).toNat), l70) (Nat.lt_succ_self _) ⟨_, _, rfl, rfl, ((hnx26 _).symm.trans hr)⟩
        have hlen75 := (hg_0).2.1
        refine Tr.block ?_
        refine Tr.sub (env' := [(0, _), (1, _), (2, _), (3, _), (9, _), (10, _), (11, _), (65, _), (66, _)]) ⟨rfl, rfl, rfl, rfl, rfl, rfl, rfl, rfl, rfl, trivial⟩ ?_
        refine Tr.loop (S := fun n (z : Int × (List Int) × (List Int)) env x => match z with | (t_76, l64, l66) => ∃ v65 : Value, ∃ v67 : Value, env = [(0, ug_0), (1, .int .i64 x_1), (2, .int .i64 y_2), (3, .int .u32 (right_3.toNat : Int)), (9, v67), (10, v65), (11, .int .i64 y28), (65, .int .i64 ((g_0.length : Int))), (66, .int .i64 t_76)] ∧ x = ⟨m, hqT 3 1 encI v65 l64 :: hownT 3 1 encI v67 l66 :: l⟩ ∧ n = ((g_0.length : Int) - t_76).toNat ∧ 0 ≤ t_76 ∧ forK (σ := (List Int) × (List Int)) (fun i s nx_ => grant_graph_path_b77 g_0 y28 i s.1 s.2 nx_) (fun s => grant_graph_path_k72 nx26 s.1 s.2) n t_76 (l64, l66) = some r) _ ((0 : Int), l15, l17) ⟨_, _, rfl, rfl, rfl, (by omega), hr⟩ ?_
        rintro n79 ⟨t_76, l64, l66⟩ env x ⟨v65, v67, rfl, rfl, hnt_76, h0t_76, hr⟩
        cases n79 with
        | zero =>
          simp only [forK] at hr
          refine Tr.seq ?_
          refine Tr.region_f (fun _ => false) ?_
          refine W.q rfl rfl rfl rfl (by decide) (Yd.lss rfl (.t rfl) (.t rfl)) ?_
          refine W.end ?_
          refine NX.sub (env' := [(0, _), (1, _), (2, _), (3, _), (9, _), (10, _), (11, _), (65, _), (66, _), (67, _)]) ⟨rfl, rfl, rfl, rfl, rfl, rfl, rfl, rfl, rfl, rfl, trivial⟩ ?_
          refine NX.then ?_
          refine Tr.seq ?_
          refine Tr.cond (.t rfl) (fun hb => ?_) (fun hb => ?_)
          · exact absurd (hb.symm.trans (fr_end hnt_76)) (by decide)
          ·
            refine Tr.exit' (EX.then (EX.then (EX.block ?_)))
            refine NX.sub (env' := [(0, _), (1, _), (2, _), (3, _), (9, _), (10, _)]) ⟨rfl, rfl, rfl, rfl, rfl, rfl, trivial⟩ ?_
            exact hk73 _ _ ⟨_, _, _, _, rfl, rfl, hr⟩
        | succ n79 =>
          obtain ⟨nx78, hnx78, hr⟩ := forK_succ hr
          try dsimp only at hr
          unfold grant_graph_path_b77 at hr
          try dsimp only at hr
          have hltt_76 := fr_bnd hnt_76
          refine Tr.seq ?_
          refine Tr.region_f (fun _ => false) ?_
          refine W.q rfl rfl rfl rfl (by decide) (Yd.lss rfl (.t rfl) (.t rfl)) ?_
          refine W.end ?_
          refine NX.sub (env' := [(0, _), (1, _), (2, _), (3, _), (9, _), (10, _), (11, _), (65, _), (66, _), (67, _)]) ⟨rfl, rfl, rfl, rfl, rfl, rfl, rfl, rfl, rfl, rfl, trivial⟩ ?_
          refine NX.then ?_
          refine Tr.seq ?_
          refine Tr.cond (.t rfl) (fun hb => ?_) (fun hb => ?_)
          rotate_left
          · exact absurd (hb.symm.trans (fr_go hnt_76)) (by decide)
          ·
            refine Tr.skip' ?_
            refine NX.then ?_
            refine Tr.seq ?_
            refine Tr.block ?_
            refine Tr.seq ?_
            refine Tr.region_f (fun _ => false) ?_
            refine W.q rfl rfl rfl rfl (by decide) (Yd.mv rfl (.t rfl)) ?_
            refine W.q rfl rfl rfl rfl (by decide) (Yd.as rfl (.t rfl)) ?_
            refine W.end ?_
            refine NX.sub (env' := [(0, _), (1, _), (2, _), (3, _), (9, _), (10, _), (11, _), (65, _), (66, _), (13, _)]) ⟨rfl, rfl, rfl, rfl, rfl, rfl, rfl, rfl, rfl, rfl, trivial⟩ ?_
            refine NX.then ?_
            refine Tr.seq ?_
            obtain ⟨y80, hy81, hr⟩ := bind_some hr
            obtain ⟨ha82, hr⟩ := guard_some hr
            refine Tr.region_f (fun _ => false) ?_
            refine W.q rfl rfl rfl rfl (by decide) (Yd.mv rfl (.t rfl)) ?_
            refine W.q rfl rfl rfl rfl (by decide) (Yd.mv rfl (.t rfl)) ?_
            refine W.q rfl rfl rfl rfl (by decide) (Yd.idxT (pos := 1) rfl hy81 rfl Try.underlying84 SZ3 (.t rfl) (.t rfl)) ?_
            refine W.q rfl rfl rfl rfl (by decide) (Yd.ldT (enc := encI) (n := 1) (pos := 1) (fun _ => rfl) rfl hy81 rfl rfl ON3 (.t rfl)) ?_
            refine W.q rfl rfl rfl rfl (by decide) (Yd.lss rfl (.t rfl) .c) ?_
            refine W.q rfl rfl rfl rfl (by decide) (Yd.mv rfl (.t rfl)) ?_
            refine W.g rfl rfl rfl rfl rfl (.t rfl _) rfl (by decide) (fun hG => Yd.mv rfl (.t rfl)) ?_
            refine W.g rfl rfl rfl rfl rfl (.t rfl _) rfl (by decide) (fun hG => Yd.mv rfl (.t rfl)) ?_
            refine W.g rfl rfl rfl rfl rfl (.t rfl _) rfl (by decide) (fun hG => Yd.mv rfl (.t rfl)) ?_
            refine W.g rfl rfl rfl rfl rfl (.t rfl _) rfl (by decide) (fun hG => Yd.call (v := .bool ((((grant_graph_joined g_0 y28 t_76).getD false)))) rfl Try.func76 rfl rfl (.cons (.g rfl hG) (.cons (.g rfl hG) (.cons (.g rfl hG) .nil))) (fun x' hx w hw => grant_graph_joined_ok w0 x'.m x'.l _ _ (hg_0.mono hx.1) y28 t_76 _ (gd_get (d := false) ha82 hG) w hw)) ?_
            refine W.q rfl rfl rfl rfl (by decide) (Yd.and rfl (.t rfl) .c rfl rfl) ?_
            refine W.end ?_
            refine NX.sub (env' := [(0, _), (1, _), (2, _), (3, _), (9, _), (10, _), (11, _), (65, _), (66, _), (13, _), (79, _)]) ⟨rfl, rfl, rfl, rfl, rfl, rfl, rfl, rfl, rfl, rfl, rfl, trivial⟩ ?_
            refine NX.then ?_
            refine Tr.cond (.t rfl) (fun hb => ?_) (fun hb => ?_)
            · have hr := cond_t hb hr
              refine Tr.seq ?_
              obtain ⟨y83, hy84, hr⟩ := bind_some hr
              refine Tr.region_f (fun i => Nat.beq i 4) ?_
              refine W.q rfl rfl rfl rfl (by decide) (Yd.mv rfl (.t rfl)) ?_
              refine W.q rfl rfl rfl rfl (by decide) (Yd.mv rfl (.t rfl)) ?_
              refine W.q rfl rfl rfl rfl (by decide) (Yd.mv rfl (.t rfl)) ?_
              refine W.q rfl rfl rfl rfl (by decide) (Yd.idxT (pos := 1) rfl hy84 rfl Try.underlying84 SZ3 (.t rfl) (.t rfl)) ?_
              refine W.s rfl rfl rfl rfl (Ef.stT (enc := encI) (n := 1) (pos := 1) (y := y28) (us := [_]) (fun _ => rfl) rfl hy84 rfl (.t rfl) (.t rfl) SZ3 rfl rfl rfl (by decide)) ?_
              rintro _ _ ⟨rfl, rfl⟩
              refine ⟨.inl rfl, ?_⟩
              refine W.cast (m' := m) (l' := hqT 3 1 encI v65 _ :: hownT 3 1 encI v67 _ :: l) rfl rfl ?_
              refine W.end ?_
              refine NX.sub (env' := [(0, _), (1, _), (2, _), (3, _), (9, _), (10, _), (11, _), (65, _), (66, _), (13, _)]) ⟨rfl, rfl, rfl, rfl, rfl, rfl, rfl, rfl, rfl, rfl, trivial⟩ ?_
              refine NX.then ?_
              obtain ⟨hq88, hr⟩ := guard_some hr; replace hq88 := of_decide_eq_true hq88
              refine Tr.region_f (fun i => Nat.beq i 2 || Nat.beq i 3) ?_
              refine W.q rfl rfl rfl rfl (by decide) (Yd.mv rfl (.t rfl)) ?_
              refine W.q rfl rfl rfl rfl (by decide) (Yd.mv rfl (.t rfl)) ?_
              refine W.e rfl rfl rfl rfl (by decide) (Ef.bsT (enc := encI) (vs := [_]) (ys := [t_76]) (fun _ => rfl) IF3 rfl Try.underlying84 (by decide) rfl (.cons (.t rfl) .nil) rfl rfl (by decide)) ?_
              rintro v85 _ rfl
              refine ⟨.inl rfl, ?_⟩
              refine W.cast (m' := m) (l' := hownT 3 1 encI v85 _ :: hqT 3 1 encI v65 _ :: hownT 3 1 encI v67 _ :: l) rfl rfl ?_
              refine W.e rfl rfl rfl rfl (by decide) (Ef.apQ (pos := 1) (enc := encI) (xs := l64) (ys := ([t_76] : List Int)) (fun _ => rfl) IF3 rfl rfl Try.underlying84 rfl (by decide) (.t rfl) (.t rfl) (Src.own (pos := 0) rfl) (fun _ => rfl) (by simp) (by omega) (by omega)) ?_
              rintro v87 _ rfl
              refine ⟨.inl rfl, ?_⟩
              refine W.cast (m' := m) (l' := hownT 3 1 encI v85 _ :: hqT 3 1 encI v87 _ :: hownT 3 1 encI v67 _ :: l) rfl rfl ?_
              refine W.q rfl rfl rfl rfl (by decide) (Yd.as rfl (.t rfl)) ?_
              refine W.end ?_
              refine NX.sub (env' := [(0, _), (1, _), (2, _), (3, _), (9, _), (10, _), (11, _), (65, _), (66, _)]) ⟨rfl, rfl, rfl, rfl, rfl, rfl, rfl, rfl, rfl, trivial⟩ ?_
              refine NX.drop (l' := hqT 3 1 encI v87 _ :: hownT 3 1 encI v67 _ :: l) (.cons _ (.cons_cons _ (.cons_cons _ (.refl _)))) ?_
              refine NX.block ?_
              refine NX.then ?_
              refine Tr.region_f (fun _ => false) ?_
              refine W.q rfl rfl rfl rfl (by decide) (Yd.add rfl (.t rfl) .c) ?_
              refine W.q rfl rfl rfl rfl (by decide) (Yd.mv rfl (.t rfl)) ?_
              refine W.end ?_
              refine NX.sub (env' := [(0, _), (1, _), (2, _), (3, _), (9, _), (10, _), (11, _), (65, _), (66, _)]) ⟨rfl, rfl, rfl, rfl, rfl, rfl, rfl, rfl, rfl, trivial⟩ ?_
              refine NX.sub (env' := [(0, _), (1, _), (2, _), (3, _), (9, _), (10, _), (11, _), (65, _), (66, _)]) ⟨rfl, rfl, rfl, rfl, rfl, rfl, rfl, rfl, rfl, trivial⟩ ?_
              have hw := w64_id (n := t_76 + 1) (by omega) (by omega)
              exact NX.again n79 (t_76 + 1, (l64 ++ ([t_76] : List Int)), (l66.set t_76.toNat y28)) (Nat.lt_succ_self _) ⟨_, _, (by rw [hw] <;> rfl), rfl, (fr_dec hnt_76), (by omega), ((hnx78 _).symm.trans hr)⟩
            · have hr := cond_f hb hr
              refine Tr.skip' ?_
              refine NX.block ?_
              refine NX.then ?_
              refine Tr.region_f (fun _ => false) ?_
              refine W.q rfl rfl rfl rfl (by decide) (Yd.add rfl (.t rfl) .c) ?_
              refine W.q rfl rfl rfl rfl (by decide) (Yd.mv rfl (.t rfl)) ?_
              refine W.end ?_
              refine NX.sub (env' := [(0, _), (1, _), (2, _), (3, _), (9, _), (10, _), (11, _), (65, _), (66, _)]) ⟨rfl, rfl, rfl, rfl, rfl, rfl, rfl, rfl, rfl, trivial⟩ ?_
              refine NX.sub (env' := [(0, _), (1, _), (2, _), (3, _), (9, _), (10, _), (11, _), (65, _), (66, _)]) ⟨rfl, rfl, rfl, rfl, rfl, rfl, rfl, rfl, rfl, trivial⟩ ?_
              have hw := w64_id (n := t_76 + 1) (by omega) (by omega)
              exact NX.again n79 (t_76 + 1, l64, l66) (Nat.lt_succ_self _) ⟨_, _, (by rw [hw] <;> rfl), rfl, (fr_dec hnt_76), (by omega), ((hnx78 _).symm.trans hr)⟩
    · have hr := cond_f hb hr
      refine Tr.exit' (EX.then (EX.then (EX.block ?_)))
      refine NX.sub (env' := []) trivial ?_
      refine NX.drop (l' := l) (.cons _ (.cons _ (.refl _))) ?_
      exact hk24 _ _ ⟨rfl, rfl, hr⟩

def grant_Can (fuel : Nat) (n_0 : Int) (edges_1 : List Edge) (x_2 : Int) (y_3 : Int) (right_4 : (BitVec 32)) : Option (Bool × Int) :=
  (grant_wrong n_0 edges_1 x_2 y_3 right_4).bind fun r1 =>
  (bif (r1.2 != (0 : Int)) then
  some ((false, r1.2))
  else
  (grant_graph_path fuel r1.1 x_2 y_3 right_4).bind fun r6 =>
  some (((!r6.isEmpty), (0 : Int))))

set_option maxRecDepth 100000 in
set_option maxHeartbeats 4000000 in
theorem grant_Can_ok (w0 : World) (m : Snap) (l : List HI) (fuel : Nat) (n_0 : Int) (uedges_1 : Value) (edges_1 : List Edge) (hedges_1 : RS rEdge m uedges_1 edges_1) (x_2 : Int) (y_3 : Int) (right_4 : (BitVec 32)) (r : Bool × Int) (hr : grant_Can fuel n_0 edges_1 x_2 y_3 right_4 = some r) (w : World) (hc : cX w0 ⟨m, l⟩ w) :
    Calls Try.prog 27 [.int .i64 n_0, uedges_1, .int .i64 x_2, .int .i64 y_3, .int .u32 (right_4.toNat : Int)].toArray w fun e w' => e = .returned (.tuple #[.bool r.1, .int .i64 r.2]) ∧ cX w0 ⟨m, l⟩ w' := by
  unfold grant_Can at hr
  refine calls_of_Tr (N := 32) Try.func27 rfl hc rfl (Nat.le_of_ble_eq_true rfl) ?_
  refine Tr.seq ?_
  refine Tr.region_f (fun _ => false) ?_
  refine W.q rfl rfl rfl rfl (by decide) (Yd.as rfl .c) ?_
  refine W.q rfl rfl rfl rfl (by decide) (Yd.as rfl .c) ?_
  refine W.end ?_
  refine NX.sub (env' := [(0, _), (1, _), (2, _), (3, _), (4, _)]) ⟨rfl, rfl, rfl, rfl, rfl, trivial⟩ ?_
  refine NX.then ?_
  refine Tr.seq ?_
  obtain ⟨r1, hr2, hr⟩ := bind_some hr
  refine Tr.region_f (fun i => Nat.beq i 5) ?_
  refine W.q rfl rfl rfl rfl (by decide) (Yd.mv rfl (.t rfl)) ?_
  refine W.q rfl rfl rfl rfl (by decide) (Yd.mv rfl (.t rfl)) ?_
  refine W.q rfl rfl rfl rfl (by decide) (Yd.mv rfl (.t rfl)) ?_
  refine W.q rfl rfl rfl rfl (by decide) (Yd.mv rfl (.t rfl)) ?_
  refine W.q rfl rfl rfl rfl (by decide) (Yd.mv rfl (.t rfl)) ?_
  refine W.e rfl rfl rfl rfl (by decide) (Ef.call (R := fun z x' => ∃ u3 : Value, ∃ m4 : Snap, z = .tuple #[u3, .int .i64 r1.2] ∧ x' = ⟨m4, l⟩ ∧ Sle m m4 ∧ RS (Rp.slice rU) m4 u3 r1.1) rfl Try.func49 rfl rfl (.cons (.t rfl) (.cons (.t rfl) (.cons (.t rfl) (.cons (.t rfl) (.cons (.t rfl) .nil))))) (fun w hw => (grant_wrong_ok w0 _ _ n_0 _ _ hedges_1 x_2 y_3 right_4 _ hr2 w hw).mono fun e w' ⟨u3, m4, he, hm', hu5, hc'⟩ => ⟨_, _, he, ⟨u3, m4, rfl, rfl, hm', hu5⟩, hc'⟩)) ?_
  rintro _ _ ⟨u3, m4, rfl, rfl, hsm4, hu5⟩
  have hedges_1 := hedges_1.mono hsm4
  refine ⟨.inl rfl, ?_⟩
  refine W.cast (m' := m4) (l' := l) rfl rfl ?_
  refine W.q rfl rfl rfl rfl (by decide) (Yd.mv rfl (.t rfl)) ?_
  refine W.q rfl rfl rfl rfl (by decide) (Yd.ext rfl (.t rfl) rfl) ?_
  refine W.q rfl rfl rfl rfl (by decide) (Yd.ext rfl (.t rfl) rfl) ?_
  refine W.q rfl rfl rfl rfl (by decide) (Yd.as rfl (.t rfl)) ?_
  refine W.q rfl rfl rfl rfl (by decide) (Yd.as rfl (.t rfl)) ?_
  refine W.end ?_
  refine NX.sub (env' := [(2, _), (3, _), (4, _), (12, _), (13, _)]) ⟨rfl, rfl, rfl, rfl, rfl, trivial⟩ ?_
  refine NX.then ?_
  refine Tr.seq ?_
  refine Tr.seq ?_
  refine Tr.region_f (fun _ => false) ?_
  refine W.q rfl rfl rfl rfl (by decide) (Yd.mv rfl (.t rfl)) ?_
  refine W.q rfl rfl rfl rfl (by decide) (Yd.neq rfl (.t rfl) .c) ?_
  refine W.end ?_
  refine NX.sub (env' := [(2, _), (3, _), (4, _), (12, _), (13, _), (24, _)]) ⟨rfl, rfl, rfl, rfl, rfl, rfl, trivial⟩ ?_
  refine NX.then ?_
  refine Tr.cond (.t rfl) (fun hb => ?_) (fun hb => ?_)
  · have hr := cond_t hb hr
    refine Tr.seq ?_
    refine Tr.region_f (fun _ => false) ?_
    refine W.q rfl rfl rfl rfl (by decide) (Yd.mv rfl (.t rfl)) ?_
    refine W.q rfl rfl rfl rfl (by decide) (Yd.as rfl .c) ?_
    refine W.q rfl rfl rfl rfl (by decide) (Yd.as rfl (.t rfl)) ?_
    refine W.end ?_
    refine NX.sub (env' := [(10, _), (11, _)]) ⟨rfl, rfl, trivial⟩ ?_
    refine NX.then ?_
    refine Tr.ret' (RT.then ?_)
    refine res2 rfl rfl rfl ?_
    intro w hc
    cases hr
    exact ⟨rfl, (cX_le (x := ⟨m, _⟩) ⟨hsm4, [], rfl⟩ hc)⟩
  · have hr := cond_f hb hr
    refine Tr.skip' ?_
    refine NX.then ?_
    refine Tr.seq ?_
    obtain ⟨r6, hr7, hr⟩ := bind_some hr
    refine Tr.region_f (fun i => Nat.beq i 4) ?_
    refine W.q rfl rfl rfl rfl (by decide) (Yd.mv rfl (.t rfl)) ?_
    refine W.q rfl rfl rfl rfl (by decide) (Yd.mv rfl (.t rfl)) ?_
    refine W.q rfl rfl rfl rfl (by decide) (Yd.mv rfl (.t rfl)) ?_
    refine W.q rfl rfl rfl rfl (by decide) (Yd.mv rfl (.t rfl)) ?_
    refine W.e rfl rfl rfl rfl (by decide) (Ef.call (R := fun z x' => ∃ v8 : Value, z = v8 ∧ x' = ⟨m4, hownT 3 1 encI v8 r6 :: l⟩ ∧ (r6 = [] → v8 = .slice none 0 0)) rfl Try.func50 rfl rfl (.cons (.t rfl) (.cons (.t rfl) (.cons (.t rfl) (.cons (.t rfl) .nil)))) (fun w hw => (grant_graph_path_ok w0 _ _ fuel _ _ hu5 x_2 y_3 right_4 _ hr7 w hw).mono fun e w' ⟨v8, he, hnn, hc'⟩ => ⟨_, _, he, ⟨v8, rfl, rfl, hnn⟩, hc'⟩)) ?_
    rintro v8 _ ⟨_, rfl, rfl, hn10⟩
    refine ⟨.inl rfl, ?_⟩
    refine W.cast (m' := m4) (l' := hownT 3 1 encI v8 _ :: l) rfl rfl ?_
    refine W.q rfl rfl rfl rfl (by decide) (Yd.nenilO (enc := encI) (n := 1) (pos := 0) (xs := r6) rfl hn10 rfl Try.underlying84 (.t rfl) .c) ?_
    refine W.q rfl rfl rfl rfl (by decide) (Yd.as rfl (.t rfl)) ?_
    refine W.q rfl rfl rfl rfl (by decide) (Yd.as rfl .c) ?_
    refine W.end ?_
    refine NX.sub (env' := [(10, _), (11, _)]) ⟨rfl, rfl, trivial⟩ ?_
    refine NX.drop (l' := l) (.cons _ (.refl _)) ?_
    refine NX.then ?_
    refine Tr.ret' ?_
    refine res2 rfl rfl rfl ?_
    intro w hc
    cases hr
    exact ⟨rfl, (cX_le (x := ⟨m, _⟩) ⟨hsm4, [], rfl⟩ hc)⟩

def syllogistref_EdgesCheck_k3 : Option (Int) :=
  some ((0 : Int))

def syllogistref_EdgesCheck_b7 (n_0 : Int) (edges_1 : List Edge) (t_6 : Int) (nx8 : Unit → Option (Int)) : Option (Int) :=
  (geti edges_1 t_6).bind fun y10 =>
  (bif (((((decide (y10.src < (0 : Int))) || (decide (y10.src ≥ n_0))) || (decide (y10.to < (0 : Int)))) || (decide (y10.to ≥ n_0))) || (y10.src == y10.to)) then
  some ((2 : Int))
  else
  nx8 ())

def syllogistref_EdgesCheck (n_0 : Int) (edges_1 : List Edge) : Option (Int) :=
  (bif (((decide (n_0 < (1 : Int))) || (decide (n_0 > (6 : Int)))) || (decide ((edges_1.length : Int) > (20 : Int)))) then
  some ((1 : Int))
  else
  forK (σ := Unit) (fun i s nx_ => syllogistref_EdgesCheck_b7 n_0 edges_1 i nx_) (fun _ => syllogistref_EdgesCheck_k3) ((edges_1.length : Int) - (0 : Int)).toNat (0 : Int) ())

set_option maxRecDepth 100000 in
set_option maxHeartbeats 4000000 in
theorem syllogistref_EdgesCheck_ok (w0 : World) (m : Snap) (l : List HI) (n_0 : Int) (uedges_1 : Value) (edges_1 : List Edge) (hedges_1 : RS rEdge m uedges_1 edges_1) (r : Int) (hr : syllogistref_EdgesCheck n_0 edges_1 = some r) (w : World) (hc : cX w0 ⟨m, l⟩ w) :
    Calls Try.prog 23 [.int .i64 n_0, uedges_1].toArray w fun e w' => e = .returned (.int .i64 r) ∧ cX w0 ⟨m, l⟩ w' := by
  unfold syllogistref_EdgesCheck at hr
  refine calls_of_Tr (N := 52) Try.func23 rfl hc rfl (Nat.le_of_ble_eq_true rfl) ?_
  refine Tr.seq ?_
  refine Tr.region_f (fun _ => false) ?_
  refine W.q rfl rfl rfl rfl (by decide) (Yd.as rfl .c) ?_
  refine W.end ?_
  refine NX.sub (env' := [(0, _), (1, _)]) ⟨rfl, rfl, trivial⟩ ?_
  refine NX.then ?_
  refine Tr.seq ?_
  refine Tr.seq ?_
  refine Tr.region_f (fun _ => false) ?_
  refine W.q rfl rfl rfl rfl (by decide) (Yd.mv rfl (.t rfl)) ?_
  refine W.q rfl rfl rfl rfl (by decide) (Yd.lss rfl (.t rfl) .c) ?_
  refine W.q rfl rfl rfl rfl (by decide) (Yd.mv rfl (.t rfl)) ?_
  refine W.g rfl rfl rfl rfl rfl (.t rfl _) rfl (by decide) (fun hG => Yd.mv rfl (.t rfl)) ?_
  refine W.g rfl rfl rfl rfl rfl (.t rfl _) rfl (by decide) (fun hG => Yd.gtr rfl (.g rfl hG) .c) ?_
  refine W.q rfl rfl rfl rfl (by decide) (Yd.or rfl (.t rfl) .c rfl rfl) ?_
  refine W.q rfl rfl rfl rfl (by decide) (Yd.mv rfl (.t rfl)) ?_
  refine W.g rfl rfl rfl rfl rfl (.t rfl _) rfl (by decide) (fun hG => Yd.mv rfl (.t rfl)) ?_
  refine W.g rfl rfl rfl rfl rfl (.t rfl _) rfl (by decide) (fun hG => Yd.lenR hedges_1 rfl Try.underlying43 (.g rfl hG)) ?_
  refine W.g rfl rfl rfl rfl rfl (.t rfl _) rfl (by decide) (fun hG => Yd.gtr rfl (.g rfl hG) .c) ?_
  refine W.q rfl rfl rfl rfl (by decide) (Yd.or rfl (.t rfl) .c rfl rfl) ?_
  refine W.end ?_
  refine NX.sub (env' := [(0, _), (1, _), (17, _)]) ⟨rfl, rfl, rfl, trivial⟩ ?_
  refine NX.then ?_
  refine Tr.cond (.t rfl) (fun hb => ?_) (fun hb => ?_)
  · have hr := cond_t hb hr
    refine Tr.seq ?_
    refine Tr.region_f (fun _ => false) ?_
    refine W.q rfl rfl rfl rfl (by decide) (Yd.as rfl .c) ?_
    refine W.end ?_
    refine NX.sub (env' := [(4, _)]) ⟨rfl, trivial⟩ ?_
    refine NX.then ?_
    refine Tr.ret' (RT.then ?_)
    refine res1 rfl rfl ?_
    intro w hc
    cases hr
    exact ⟨rfl, hc⟩
  · have hr := cond_f hb hr
    refine Tr.skip' ?_
    refine NX.then ?_
    refine Tr.seq ?_
    refine Tr.seq ?_
    refine Tr.region_f (fun _ => false) ?_
    refine W.q rfl rfl rfl rfl (by decide) (Yd.mv rfl (.t rfl)) ?_
    refine W.q rfl rfl rfl rfl (by decide) (Yd.lenR hedges_1 rfl Try.underlying43 (.t rfl)) ?_
    refine W.q rfl rfl rfl rfl (by decide) (Yd.mv rfl .c) ?_
    refine W.end ?_
    refine NX.sub (env' := [(0, _), (18, _), (19, _), (20, _)]) ⟨rfl, rfl, rfl, rfl, trivial⟩ ?_
    refine NX.then ?_
    refine Tr.join (S := fun env x => env = [] ∧ x = ⟨m, l⟩ ∧ syllogistref_EdgesCheck_k3 = some r) ?_ (fun hk4 => ?_)
    · rintro _ _ ⟨rfl, rfl, hr⟩
      unfold syllogistref_EdgesCheck_k3 at hr
      try dsimp only at hr
      refine NX.then ?_
      refine Tr.seq ?_
      refine Tr.region_f (fun _ => false) ?_
      refine W.q rfl rfl rfl rfl (by decide) (Yd.as rfl .c) ?_
      refine W.end ?_
      refine NX.sub (env' := [(4, _)]) ⟨rfl, trivial⟩ ?_
      refine NX.then ?_
      refine Tr.ret' ?_
      refine res1 rfl rfl ?_
      intro w hc
      cases hr
      exact ⟨rfl, hc⟩
    have hlen5 := (hedges_1).2.1
    refine Tr.block ?_
    refine Tr.sub (env' := [(0, _), (18, _), (19, _), (20, _)]) ⟨rfl, rfl, rfl, rfl, trivial⟩ ?_
    refine Tr.loop (S := fun n (z : Int × Unit) env x => match z with | (t_6, _) => env = [(0, .int .i64 n_0), (18, uedges_1), (19, .int .i64 ((edges_1.length : Int))), (20, .int .i64 t_6)] ∧ x = ⟨m, l⟩ ∧ n = ((edges_1.length : Int) - t_6).toNat ∧ 0 ≤ t_6 ∧ forK (σ := Unit) (fun i s nx_ => syllogistref_EdgesCheck_b7 n_0 edges_1 i nx_) (fun _ => syllogistref_EdgesCheck_k3) n t_6 () = some r) _ ((0 : Int), ()) ⟨rfl, rfl, rfl, (by omega), hr⟩ ?_
    rintro n9 ⟨t_6, _⟩ env x ⟨rfl, rfl, hnt_6, h0t_6, hr⟩
    cases n9 with
    | zero =>
      simp only [forK] at hr
      refine Tr.seq ?_
      refine Tr.region_f (fun _ => false) ?_
      refine W.q rfl rfl rfl rfl (by decide) (Yd.lss rfl (.t rfl) (.t rfl)) ?_
      refine W.end ?_
      refine NX.sub (env' := [(0, _), (18, _), (19, _), (20, _), (21, _)]) ⟨rfl, rfl, rfl, rfl, rfl, trivial⟩ ?_
      refine NX.then ?_
      refine Tr.seq ?_
      refine Tr.cond (.t rfl) (fun hb => ?_) (fun hb => ?_)
      · exact absurd (hb.symm.trans (fr_end hnt_6)) (by decide)
      ·
        refine Tr.exit' (EX.then (EX.then (EX.block ?_)))
        refine NX.sub (env' := []) trivial ?_
        exact hk4 _ _ ⟨rfl, rfl, hr⟩
    | succ n9 =>
      obtain ⟨nx8, hnx8, hr⟩ := forK_succ hr
      try dsimp only at hr
      unfold syllogistref_EdgesCheck_b7 at hr
      try dsimp only at hr
      have hltt_6 := fr_bnd hnt_6
      refine Tr.seq ?_
      refine Tr.region_f (fun _ => false) ?_
      refine W.q rfl rfl rfl rfl (by decide) (Yd.lss rfl (.t rfl) (.t rfl)) ?_
      refine W.end ?_
      refine NX.sub (env' := [(0, _), (18, _), (19, _), (20, _), (21, _)]) ⟨rfl, rfl, rfl, rfl, rfl, trivial⟩ ?_
      refine NX.then ?_
      refine Tr.seq ?_
      refine Tr.cond (.t rfl) (fun hb => ?_) (fun hb => ?_)
      rotate_left
      · exact absurd (hb.symm.trans (fr_go hnt_6)) (by decide)
      ·
        refine Tr.skip' ?_
        refine NX.then ?_
        refine Tr.seq ?_
        refine Tr.block ?_
        refine Tr.seq ?_
        obtain ⟨y10, hy11, hr⟩ := bind_some hr
        refine Tr.region_f (fun i => Nat.beq i 2 || Nat.beq i 3) ?_
        refine W.q rfl rfl rfl rfl (by decide) (Yd.idxR hedges_1 hy11 rfl Try.underlying43 SZ100 (.t rfl) (.t rfl)) ?_
        refine W.q rfl rfl rfl rfl (by decide) (Yd.ldFs (us := [_, _, _]) hedges_1 (.refl _) hy11 rfl rfl ON100 US100 SZ100 (.t rfl)) ?_
        refine W.e rfl rfl rfl rfl (by decide) (Ef.al rfl ZR100 rfl) ?_
        rintro _ _ ⟨b12, rfl, rfl⟩
        refine ⟨.inl rfl, ?_⟩
        refine W.cast (m' := m) (l' := hcells b12 [_, _, _] 100 :: l) rfl rfl ?_
        refine W.s rfl rfl rfl rfl (Ef.stB (pos := 0) (us := [_, _, _]) (cs' := [_, _, _]) rfl rfl (.t rfl) (.t rfl) SZ100 rfl rfl rfl (Nat.le_of_ble_eq_true rfl) rfl) ?_
        rintro _ _ ⟨rfl, rfl⟩
        refine ⟨.inl rfl, ?_⟩
        refine W.cast (m' := m) (l' := hcells b12 [_, _, _] 100 :: l) rfl rfl ?_
        refine W.end ?_
        refine NX.sub (env' := [(0, _), (18, _), (19, _), (20, _), (6, _)]) ⟨rfl, rfl, rfl, rfl, rfl, trivial⟩ ?_
        refine NX.then ?_
        refine Tr.seq ?_
        refine Tr.region_f (fun _ => false) ?_
        refine W.q rfl rfl rfl rfl (by decide) (Yd.fldB rfl Try.underlying100 rfl SZ3 rfl (.t rfl)) ?_
        refine W.q rfl rfl rfl rfl (by decide) (Yd.ldB (pos := 0) rfl rfl rfl ON3 (.t rfl)) ?_
        refine W.q rfl rfl rfl rfl (by decide) (Yd.lss rfl (.t rfl) .c) ?_
        refine W.q rfl rfl rfl rfl (by decide) (Yd.mv rfl (.t rfl)) ?_
        refine W.g rfl rfl rfl rfl rfl (.t rfl _) rfl (by decide) (fun hG => Yd.fldB rfl Try.underlying100 rfl SZ3 rfl (.t rfl)) ?_
        refine W.g rfl rfl rfl rfl rfl (.t rfl _) rfl (by decide) (fun hG => Yd.ldB (pos := 0) rfl rfl rfl ON3 (.g rfl hG)) ?_
        refine W.g rfl rfl rfl rfl rfl (.t rfl _) rfl (by decide) (fun hG => Yd.mv rfl (.t rfl)) ?_
        refine W.g rfl rfl rfl rfl rfl (.t rfl _) rfl (by decide) (fun hG => Yd.geq rfl (.g rfl hG) (.g rfl hG)) ?_
        refine W.q rfl rfl rfl rfl (by decide) (Yd.or rfl (.t rfl) .c rfl rfl) ?_
        refine W.q rfl rfl rfl rfl (by decide) (Yd.mv rfl (.t rfl)) ?_
        refine W.g rfl rfl rfl rfl rfl (.t rfl _) rfl (by decide) (fun hG => Yd.fldB rfl Try.underlying100 rfl SZ3 rfl (.t rfl)) ?_
        refine W.g rfl rfl rfl rfl rfl (.t rfl _) rfl (by decide) (fun hG => Yd.ldB (pos := 0) rfl rfl rfl ON3 (.g rfl hG)) ?_
        refine W.g rfl rfl rfl rfl rfl (.t rfl _) rfl (by decide) (fun hG => Yd.lss rfl (.g rfl hG) .c) ?_
        refine W.q rfl rfl rfl rfl (by decide) (Yd.or rfl (.t rfl) .c rfl rfl) ?_
        refine W.q rfl rfl rfl rfl (by decide) (Yd.mv rfl (.t rfl)) ?_
        refine W.g rfl rfl rfl rfl rfl (.t rfl _) rfl (by decide) (fun hG => Yd.fldB rfl Try.underlying100 rfl SZ3 rfl (.t rfl)) ?_
        refine W.g rfl rfl rfl rfl rfl (.t rfl _) rfl (by decide) (fun hG => Yd.ldB (pos := 0) rfl rfl rfl ON3 (.g rfl hG)) ?_
        refine W.g rfl rfl rfl rfl rfl (.t rfl _) rfl (by decide) (fun hG => Yd.mv rfl (.t rfl)) ?_
        refine W.g rfl rfl rfl rfl rfl (.t rfl _) rfl (by decide) (fun hG => Yd.geq rfl (.g rfl hG) (.g rfl hG)) ?_
        refine W.q rfl rfl rfl rfl (by decide) (Yd.or rfl (.t rfl) .c rfl rfl) ?_
        refine W.q rfl rfl rfl rfl (by decide) (Yd.mv rfl (.t rfl)) ?_
        refine W.g rfl rfl rfl rfl rfl (.t rfl _) rfl (by decide) (fun hG => Yd.fldB rfl Try.underlying100 rfl SZ3 rfl (.t rfl)) ?_
        refine W.g rfl rfl rfl rfl rfl (.t rfl _) rfl (by decide) (fun hG => Yd.ldB (pos := 0) rfl rfl rfl ON3 (.g rfl hG)) ?_
        refine W.g rfl rfl rfl rfl rfl (.t rfl _) rfl (by decide) (fun hG => Yd.fldB rfl Try.underlying100 rfl SZ3 rfl (.t rfl)) ?_
        refine W.g rfl rfl rfl rfl rfl (.t rfl _) rfl (by decide) (fun hG => Yd.ldB (pos := 0) rfl rfl rfl ON3 (.g rfl hG)) ?_
        refine W.g rfl rfl rfl rfl rfl (.t rfl _) rfl (by decide) (fun hG => Yd.eql rfl (.g rfl hG) (.g rfl hG)) ?_
        refine W.q rfl rfl rfl rfl (by decide) (Yd.or rfl (.t rfl) .c rfl rfl) ?_
        refine W.end ?_
        refine NX.sub (env' := [(0, _), (18, _), (19, _), (20, _), (50, _)]) ⟨rfl, rfl, rfl, rfl, rfl, trivial⟩ ?_
        refine NX.drop (l' := l) (.cons _ (.refl _)) ?_
        refine NX.then ?_
        refine Tr.cond (.t rfl) (fun hb => ?_) (fun hb => ?_)
        · have hr := cond_t hb hr
          refine Tr.seq ?_
          refine Tr.region_f (fun _ => false) ?_
          refine W.q rfl rfl rfl rfl (by decide) (Yd.as rfl .c) ?_
          refine W.end ?_
          refine NX.sub (env' := [(4, _)]) ⟨rfl, trivial⟩ ?_
          refine NX.then ?_
          refine Tr.ret' (RT.block (RT.then (RT.then (RT.block (RT.then ?_)))))
          refine res1 rfl rfl ?_
          intro w hc
          cases hr
          exact ⟨rfl, hc⟩
        · have hr := cond_f hb hr
          refine Tr.skip' ?_
          refine NX.block ?_
          refine NX.then ?_
          refine Tr.region_f (fun _ => false) ?_
          refine W.q rfl rfl rfl rfl (by decide) (Yd.add rfl (.t rfl) .c) ?_
          refine W.q rfl rfl rfl rfl (by decide) (Yd.mv rfl (.t rfl)) ?_
          refine W.end ?_
          refine NX.sub (env' := [(0, _), (18, _), (19, _), (20, _)]) ⟨rfl, rfl, rfl, rfl, trivial⟩ ?_
          refine NX.sub (env' := [(0, _), (18, _), (19, _), (20, _)]) ⟨rfl, rfl, rfl, rfl, trivial⟩ ?_
          have hw := w64_id (n := t_6 + 1) (by omega) (by omega)
          exact NX.again n9 (t_6 + 1, ()) (Nat.lt_succ_self _) ⟨(by rw [hw] <;> rfl), rfl, (fr_dec hnt_6), (by omega), ((hnx8 _).symm.trans hr)⟩

def syllogistref_Bit (w_0 : (BitVec 32)) (i_1 : Int) : Option (Bool) :=
  some ((((decide (i_1 ≥ (0 : Int))) && (decide (i_1 < (32 : Int)))) && ((w_0 &&& (1#32 <<< ((BitVec.ofInt 64 i_1)).toNat)) != 0#32)))

set_option maxRecDepth 100000 in
set_option maxHeartbeats 4000000 in
theorem syllogistref_Bit_ok (w0 : World) (m : Snap) (l : List HI) (w_0 : (BitVec 32)) (i_1 : Int) (r : Bool) (hr : syllogistref_Bit w_0 i_1 = some r) (w : World) (hc : cX w0 ⟨m, l⟩ w) :
    Calls Try.prog 69 [.int .u32 (w_0.toNat : Int), .int .i64 i_1].toArray w fun e w' => e = .returned (.bool r) ∧ cX w0 ⟨m, l⟩ w' := by
  unfold syllogistref_Bit at hr
  refine calls_of_Tr (N := 19) Try.func69 rfl hc rfl (Nat.le_of_ble_eq_true rfl) ?_
  refine Tr.seq ?_
  refine Tr.region_f (fun _ => false) ?_
  refine W.q rfl rfl rfl rfl (by decide) (Yd.as rfl .c) ?_
  refine W.end ?_
  refine NX.sub (env' := [(0, _), (1, _)]) ⟨rfl, rfl, trivial⟩ ?_
  refine NX.then ?_
  refine Tr.seq ?_
  refine Tr.region_f (fun _ => false) ?_
  refine W.q rfl rfl rfl rfl (by decide) (Yd.mv rfl (.t rfl)) ?_
  refine W.q rfl rfl rfl rfl (by decide) (Yd.geq rfl (.t rfl) .c) ?_
  refine W.q rfl rfl rfl rfl (by decide) (Yd.mv rfl (.t rfl)) ?_
  refine W.g rfl rfl rfl rfl rfl (.t rfl _) rfl (by decide) (fun hG => Yd.mv rfl (.t rfl)) ?_
  refine W.g rfl rfl rfl rfl rfl (.t rfl _) rfl (by decide) (fun hG => Yd.lss rfl (.g rfl hG) .c) ?_
  refine W.q rfl rfl rfl rfl (by decide) (Yd.and rfl (.t rfl) .c rfl rfl) ?_
  refine W.q rfl rfl rfl rfl (by decide) (Yd.mv rfl (.t rfl)) ?_
  refine W.g rfl rfl rfl rfl rfl (.t rfl _) rfl (by decide) (fun hG => Yd.mv rfl (.t rfl)) ?_
  refine W.g rfl rfl rfl rfl rfl (.t rfl _) rfl (by decide) (fun hG => Yd.mv rfl (.t rfl)) ?_
  refine W.g rfl rfl rfl rfl rfl (.t rfl _) rfl (by decide) (fun hG => Yd.cvQ rfl US3 Try.underlying139 (.g rfl hG)) ?_
  refine W.g rfl rfl rfl rfl rfl (.t rfl _) rfl (by decide) (fun hG => Yd.shlU (a := 1#32) rfl .c (.g rfl hG) (Int.natCast_nonneg _)) ?_
  refine W.g rfl rfl rfl rfl rfl (.t rfl _) rfl (by decide) (fun hG => Yd.andU (a := w_0) (b := (1#32 <<< ((BitVec.ofInt 64 i_1)).toNat)) rfl (.g rfl hG) (.g rfl hG)) ?_
  refine W.g rfl rfl rfl rfl rfl (.t rfl _) rfl (by decide) (fun hG => Yd.neqU (a := (w_0 &&& (1#32 <<< ((BitVec.ofInt 64 i_1)).toNat))) (b := 0#32) rfl (.g rfl hG) .c) ?_
  refine W.q rfl rfl rfl rfl (by decide) (Yd.and rfl (.t rfl) .c rfl rfl) ?_
  refine W.q rfl rfl rfl rfl (by decide) (Yd.as rfl (.t rfl)) ?_
  refine W.end ?_
  refine NX.sub (env' := [(4, _)]) ⟨rfl, trivial⟩ ?_
  refine NX.then ?_
  refine Tr.ret' ?_
  refine res1 rfl rfl ?_
  intro w hc
  cases hr
  exact ⟨rfl, hc⟩

def syllogistref_Size_k6 (n_5 : Int) : Option (Int) :=
  some n_5

def syllogistref_Size_b9 (w_0 : (BitVec 32)) (i_8 : Int) (n_3 : Int) (nx10 : Int → Option (Int)) : Option (Int) :=
  (syllogistref_Bit w_0 i_8).bind fun r12 =>
  (bif r12 then
  nx10 (w64 (n_3 + (1 : Int)))
  else
  nx10 n_3)

def syllogistref_Size (w_0 : (BitVec 32)) : Option (Int) :=
  forK (σ := Int) (fun i s nx_ => syllogistref_Size_b9 w_0 i s nx_) (fun s => syllogistref_Size_k6 s) ((32 : Int) - (0 : Int)).toNat (0 : Int) ((0 : Int))

set_option maxRecDepth 100000 in
set_option maxHeartbeats 4000000 in
theorem syllogistref_Size_ok (w0 : World) (m : Snap) (l : List HI) (w_0 : (BitVec 32)) (r : Int) (hr : syllogistref_Size w_0 = some r) (w : World) (hc : cX w0 ⟨m, l⟩ w) :
    Calls Try.prog 51 [.int .u32 (w_0.toNat : Int)].toArray w fun e w' => e = .returned (.int .i64 r) ∧ cX w0 ⟨m, l⟩ w' := by
  unfold syllogistref_Size at hr
  refine calls_of_Tr (N := 15) Try.func51 rfl hc rfl (Nat.le_of_ble_eq_true rfl) ?_
  refine Tr.seq ?_
  refine Tr.region_f (fun _ => false) ?_
  refine W.q rfl rfl rfl rfl (by decide) (Yd.as rfl .c) ?_
  refine W.end ?_
  refine NX.sub (env' := [(0, _)]) ⟨rfl, trivial⟩ ?_
  refine NX.then ?_
  refine Tr.seq ?_
  refine Tr.region_f (fun _ => false) ?_
  refine W.q rfl rfl rfl rfl (by decide) (Yd.as rfl .c) ?_
  refine W.end ?_
  refine NX.sub (env' := [(0, _), (3, _)]) ⟨rfl, rfl, trivial⟩ ?_
  refine NX.then ?_
  refine Tr.seq ?_
  refine Tr.seq ?_
  refine Tr.region_f (fun _ => false) ?_
  refine W.q rfl rfl rfl rfl (by decide) (Yd.as rfl .c) ?_
  refine W.end ?_
  refine NX.sub (env' := [(0, _), (3, _), (4, _)]) ⟨rfl, rfl, rfl, trivial⟩ ?_
  refine NX.then ?_
  refine Tr.join (S := fun env x => ∃ n_5 : Int, env = [(3, .int .i64 n_5)] ∧ x = ⟨m, l⟩ ∧ syllogistref_Size_k6 n_5 = some r) ?_ (fun hk7 => ?_)
  · rintro _ _ ⟨n_5, rfl, rfl, hr⟩
    unfold syllogistref_Size_k6 at hr
    try dsimp only at hr
    refine NX.then ?_
    refine Tr.seq ?_
    refine Tr.region_f (fun _ => false) ?_
    refine W.q rfl rfl rfl rfl (by decide) (Yd.mv rfl (.t rfl)) ?_
    refine W.q rfl rfl rfl rfl (by decide) (Yd.as rfl (.t rfl)) ?_
    refine W.end ?_
    refine NX.sub (env' := [(2, _)]) ⟨rfl, trivial⟩ ?_
    refine NX.then ?_
    refine Tr.ret' ?_
    refine res1 rfl rfl ?_
    intro w hc
    cases hr
    exact ⟨rfl, hc⟩
  refine Tr.block ?_
  refine Tr.sub (env' := [(0, _), (3, _), (4, _)]) ⟨rfl, rfl, rfl, trivial⟩ ?_
  refine Tr.loop (S := fun n (z : Int × Int) env x => match z with | (i_8, n_3) => env = [(0, .int .u32 (w_0.toNat : Int)), (3, .int .i64 n_3), (4, .int .i64 i_8)] ∧ x = ⟨m, l⟩ ∧ n = ((32 : Int) - i_8).toNat ∧ 0 ≤ i_8 ∧ forK (σ := Int) (fun i s nx_ => syllogistref_Size_b9 w_0 i s nx_) (fun s => syllogistref_Size_k6 s) n i_8 n_3 = some r) _ ((0 : Int), (0 : Int)) ⟨rfl, rfl, rfl, (by omega), hr⟩ ?_
  rintro n11 ⟨i_8, n_3⟩ env x ⟨rfl, rfl, hni_8, h0i_8, hr⟩
  cases n11 with
  | zero =>
    simp only [forK] at hr
    refine Tr.seq ?_
    refine Tr.seq ?_
    refine Tr.region_f (fun _ => false) ?_
    refine W.q rfl rfl rfl rfl (by decide) (Yd.mv rfl (.t rfl)) ?_
    refine W.q rfl rfl rfl rfl (by decide) (Yd.lss rfl (.t rfl) .c) ?_
    refine W.end ?_
    refine NX.sub (env' := [(0, _), (3, _), (4, _), (6, _)]) ⟨rfl, rfl, rfl, rfl, trivial⟩ ?_
    refine NX.then ?_
    refine Tr.cond (.t rfl) (fun hb => ?_) (fun hb => ?_)
    · exact absurd (hb.symm.trans (fr_end hni_8)) (by decide)
    ·
      refine Tr.exit' (EX.then (EX.then (EX.block ?_)))
      refine NX.sub (env' := [(3, _)]) ⟨rfl, trivial⟩ ?_
      exact hk7 _ _ ⟨_, rfl, rfl, hr⟩
  | succ n11 =>
    obtain ⟨nx10, hnx10, hr⟩ := forK_succ hr
    try dsimp only at hr
    unfold syllogistref_Size_b9 at hr
    try dsimp only at hr
    have hlti_8 := fr_bnd hni_8
    refine Tr.seq ?_
    refine Tr.seq ?_
    refine Tr.region_f (fun _ => false) ?_
    refine W.q rfl rfl rfl rfl (by decide) (Yd.mv rfl (.t rfl)) ?_
    refine W.q rfl rfl rfl rfl (by decide) (Yd.lss rfl (.t rfl) .c) ?_
    refine W.end ?_
    refine NX.sub (env' := [(0, _), (3, _), (4, _), (6, _)]) ⟨rfl, rfl, rfl, rfl, trivial⟩ ?_
    refine NX.then ?_
    refine Tr.cond (.t rfl) (fun hb => ?_) (fun hb => ?_)
    rotate_left
    · exact absurd (hb.symm.trans (fr_go hni_8)) (by decide)
    ·
      refine Tr.skip' ?_
      refine NX.then ?_
      refine Tr.seq ?_
      refine Tr.block ?_
      refine Tr.seq ?_
      obtain ⟨r12, hr13, hr⟩ := bind_some hr
      refine Tr.region_f (fun _ => false) ?_
      refine W.q rfl rfl rfl rfl (by decide) (Yd.mv rfl (.t rfl)) ?_
      refine W.q rfl rfl rfl rfl (by decide) (Yd.mv rfl (.t rfl)) ?_
      refine W.q rfl rfl rfl rfl (by decide) (Yd.call (v := .bool r12) rfl Try.func69 rfl rfl (.cons (.t rfl) (.cons (.t rfl) .nil)) (fun x' hx w hw => syllogistref_Bit_ok w0 x'.m x'.l w_0 i_8 _ hr13 w hw)) ?_
      refine W.end ?_
      refine NX.sub (env' := [(0, _), (3, _), (4, _), (11, _)]) ⟨rfl, rfl, rfl, rfl, trivial⟩ ?_
      refine NX.then ?_
      refine Tr.cond (.t rfl) (fun hb => ?_) (fun hb => ?_)
      · have hr := cond_t hb hr
        refine Tr.region_f (fun _ => false) ?_
        refine W.q rfl rfl rfl rfl (by decide) (Yd.mv rfl (.t rfl)) ?_
        refine W.q rfl rfl rfl rfl (by decide) (Yd.add rfl (.t rfl) .c) ?_
        refine W.q rfl rfl rfl rfl (by decide) (Yd.as rfl (.t rfl)) ?_
        refine W.end ?_
        refine NX.sub (env' := [(0, _), (3, _), (4, _)]) ⟨rfl, rfl, rfl, trivial⟩ ?_
        refine NX.block ?_
        refine NX.then ?_
        refine Tr.region_f (fun _ => false) ?_
        refine W.q rfl rfl rfl rfl (by decide) (Yd.mv rfl (.t rfl)) ?_
        refine W.q rfl rfl rfl rfl (by decide) (Yd.add rfl (.t rfl) .c) ?_
        refine W.q rfl rfl rfl rfl (by decide) (Yd.as rfl (.t rfl)) ?_
        refine W.end ?_
        refine NX.sub (env' := [(0, _), (3, _), (4, _)]) ⟨rfl, rfl, rfl, trivial⟩ ?_
        refine NX.sub (env' := [(0, _), (3, _), (4, _)]) ⟨rfl, rfl, rfl, trivial⟩ ?_
        have hw := w64_id (n := i_8 + 1) (by omega) (by omega)
        exact NX.again n11 (i_8 + 1, (w64 (n_3 + (1 : Int)))) (Nat.lt_succ_self _) ⟨(by rw [hw] <;> rfl), rfl, (fr_dec hni_8), (by omega), ((hnx10 _).symm.trans hr)⟩
      · have hr := cond_f hb hr
        refine Tr.skip' ?_
        refine NX.block ?_
        refine NX.then ?_
        refine Tr.region_f (fun _ => false) ?_
        refine W.q rfl rfl rfl rfl (by decide) (Yd.mv rfl (.t rfl)) ?_
        refine W.q rfl rfl rfl rfl (by decide) (Yd.add rfl (.t rfl) .c) ?_
        refine W.q rfl rfl rfl rfl (by decide) (Yd.as rfl (.t rfl)) ?_
        refine W.end ?_
        refine NX.sub (env' := [(0, _), (3, _), (4, _)]) ⟨rfl, rfl, rfl, trivial⟩ ?_
        refine NX.sub (env' := [(0, _), (3, _), (4, _)]) ⟨rfl, rfl, rfl, trivial⟩ ?_
        have hw := w64_id (n := i_8 + 1) (by omega) (by omega)
        exact NX.again n11 (i_8 + 1, n_3) (Nat.lt_succ_self _) ⟨(by rw [hw] <;> rfl), rfl, (fr_dec hni_8), (by omega), ((hnx10 _).symm.trans hr)⟩

def syllogistlaw_grantCode_k4 (right_4 : (BitVec 32)) (x_3 : Int) : Option (Int) :=
  bif (!((x_3 == (0 : Int)) == true) || (syllogistref_Size right_4).isSome) then
  (bif ((x_3 == (0 : Int)) && ((((syllogistref_Size right_4).getD (0 : Int))) != (1 : Int))) then
  some ((4 : Int))
  else
  some x_3) else none

def syllogistlaw_grantCode (n_0 : Int) (edges_1 : List Edge) (a_2 : Int) (b_3 : Int) (right_4 : (BitVec 32)) : Option (Int) :=
  (syllogistref_EdgesCheck n_0 edges_1).bind fun r1 =>
  (bif ((r1 == (0 : Int)) && (((((decide (a_2 < (0 : Int))) || (decide (a_2 ≥ n_0))) || (decide (b_3 < (0 : Int)))) || (decide (b_3 ≥ n_0))) || (a_2 == b_3))) then
  syllogistlaw_grantCode_k4 right_4 ((2 : Int))
  else
  syllogistlaw_grantCode_k4 right_4 r1)

set_option maxRecDepth 100000 in
set_option maxHeartbeats 4000000 in
theorem syllogistlaw_grantCode_ok (w0 : World) (m : Snap) (l : List HI) (n_0 : Int) (uedges_1 : Value) (edges_1 : List Edge) (hedges_1 : RS rEdge m uedges_1 edges_1) (a_2 : Int) (b_3 : Int) (right_4 : (BitVec 32)) (r : Int) (hr : syllogistlaw_grantCode n_0 edges_1 a_2 b_3 right_4 = some r) (w : World) (hc : cX w0 ⟨m, l⟩ w) :
    Calls Try.prog 28 [.int .i64 n_0, uedges_1, .int .i64 a_2, .int .i64 b_3, .int .u32 (right_4.toNat : Int)].toArray w fun e w' => e = .returned (.int .i64 r) ∧ cX w0 ⟨m, l⟩ w' := by
  unfold syllogistlaw_grantCode at hr
  refine calls_of_Tr (N := 48) Try.func28 rfl hc rfl (Nat.le_of_ble_eq_true rfl) ?_
  refine Tr.seq ?_
  refine Tr.region_f (fun _ => false) ?_
  refine W.q rfl rfl rfl rfl (by decide) (Yd.as rfl .c) ?_
  refine W.end ?_
  refine NX.sub (env' := [(0, _), (1, _), (2, _), (3, _), (4, _)]) ⟨rfl, rfl, rfl, rfl, rfl, trivial⟩ ?_
  refine NX.then ?_
  refine Tr.seq ?_
  obtain ⟨r1, hr2, hr⟩ := bind_some hr
  refine Tr.region_f (fun _ => false) ?_
  refine W.q rfl rfl rfl rfl (by decide) (Yd.mv rfl (.t rfl)) ?_
  refine W.q rfl rfl rfl rfl (by decide) (Yd.mv rfl (.t rfl)) ?_
  refine W.q rfl rfl rfl rfl (by decide) (Yd.call (v := .int .i64 r1) rfl Try.func23 rfl rfl (.cons (.t rfl) (.cons (.t rfl) .nil)) (fun x' hx w hw => syllogistref_EdgesCheck_ok w0 x'.m x'.l n_0 _ _ (hedges_1.mono hx.1) _ hr2 w hw)) ?_
  refine W.q rfl rfl rfl rfl (by decide) (Yd.as rfl (.t rfl)) ?_
  refine W.end ?_
  refine NX.sub (env' := [(0, _), (2, _), (3, _), (4, _), (11, _)]) ⟨rfl, rfl, rfl, rfl, rfl, trivial⟩ ?_
  refine NX.then ?_
  refine Tr.seq ?_
  refine Tr.seq ?_
  refine Tr.region_f (fun _ => false) ?_
  refine W.q rfl rfl rfl rfl (by decide) (Yd.mv rfl (.t rfl)) ?_
  refine W.q rfl rfl rfl rfl (by decide) (Yd.eql rfl (.t rfl) .c) ?_
  refine W.q rfl rfl rfl rfl (by decide) (Yd.mv rfl (.t rfl)) ?_
  refine W.g rfl rfl rfl rfl rfl (.t rfl _) rfl (by decide) (fun hG => Yd.mv rfl (.t rfl)) ?_
  refine W.g rfl rfl rfl rfl rfl (.t rfl _) rfl (by decide) (fun hG => Yd.lss rfl (.g rfl hG) .c) ?_
  refine W.g rfl rfl rfl rfl rfl (.t rfl _) rfl (by decide) (fun hG => Yd.mv rfl (.g rfl hG)) ?_
  refine W.g rfl rfl rfl rfl rfl (.g rfl _) rfl (by decide) (fun hG => Yd.mv rfl (.t rfl)) ?_
  refine W.g rfl rfl rfl rfl rfl (.g rfl _) rfl (by decide) (fun hG => Yd.mv rfl (.t rfl)) ?_
  refine W.g rfl rfl rfl rfl rfl (.g rfl _) rfl (by decide) (fun hG => Yd.geq rfl (.g rfl hG) (.g rfl hG)) ?_
  refine W.g rfl rfl rfl rfl rfl (.t rfl _) rfl (by decide) (fun hG => Yd.orG rfl (.g rfl hG) .c rfl rfl hG) ?_
  refine W.g rfl rfl rfl rfl rfl (.t rfl _) rfl (by decide) (fun hG => Yd.mv rfl (.g rfl hG)) ?_
  refine W.g rfl rfl rfl rfl rfl (.g rfl _) rfl (by decide) (fun hG => Yd.mv rfl (.t rfl)) ?_
  refine W.g rfl rfl rfl rfl rfl (.g rfl _) rfl (by decide) (fun hG => Yd.lss rfl (.g rfl hG) .c) ?_
  refine W.g rfl rfl rfl rfl rfl (.t rfl _) rfl (by decide) (fun hG => Yd.orG rfl (.g rfl hG) .c rfl rfl hG) ?_
  refine W.g rfl rfl rfl rfl rfl (.t rfl _) rfl (by decide) (fun hG => Yd.mv rfl (.g rfl hG)) ?_
  refine W.g rfl rfl rfl rfl rfl (.g rfl _) rfl (by decide) (fun hG => Yd.mv rfl (.t rfl)) ?_
  refine W.g rfl rfl rfl rfl rfl (.g rfl _) rfl (by decide) (fun hG => Yd.mv rfl (.t rfl)) ?_
  refine W.g rfl rfl rfl rfl rfl (.g rfl _) rfl (by decide) (fun hG => Yd.geq rfl (.g rfl hG) (.g rfl hG)) ?_
  refine W.g rfl rfl rfl rfl rfl (.t rfl _) rfl (by decide) (fun hG => Yd.orG rfl (.g rfl hG) .c rfl rfl hG) ?_
  refine W.g rfl rfl rfl rfl rfl (.t rfl _) rfl (by decide) (fun hG => Yd.mv rfl (.g rfl hG)) ?_
  refine W.g rfl rfl rfl rfl rfl (.g rfl _) rfl (by decide) (fun hG => Yd.mv rfl (.t rfl)) ?_
  refine W.g rfl rfl rfl rfl rfl (.g rfl _) rfl (by decide) (fun hG => Yd.mv rfl (.t rfl)) ?_
  refine W.g rfl rfl rfl rfl rfl (.g rfl _) rfl (by decide) (fun hG => Yd.eql rfl (.g rfl hG) (.g rfl hG)) ?_
  refine W.g rfl rfl rfl rfl rfl (.t rfl _) rfl (by decide) (fun hG => Yd.orG rfl (.g rfl hG) .c rfl rfl hG) ?_
  refine W.q rfl rfl rfl rfl (by decide) (Yd.and rfl (.t rfl) .c rfl rfl) ?_
  refine W.end ?_
  refine NX.sub (env' := [(4, _), (11, _), (39, _)]) ⟨rfl, rfl, rfl, trivial⟩ ?_
  refine NX.then ?_
  refine Tr.join (S := fun env x => ∃ x_3 : Int, env = [(4, .int .u32 (right_4.toNat : Int)), (11, .int .i64 x_3)] ∧ x = ⟨m, l⟩ ∧ syllogistlaw_grantCode_k4 right_4 x_3 = some r) ?_ (fun hk5 => ?_)
  · rintro _ _ ⟨x_3, rfl, rfl, hr⟩
    unfold syllogistlaw_grantCode_k4 at hr
    try dsimp only at hr
    refine NX.then ?_
    refine Tr.seq ?_
    refine Tr.seq ?_
    obtain ⟨ha6, hr⟩ := guard_some hr
    refine Tr.region_f (fun _ => false) ?_
    refine W.q rfl rfl rfl rfl (by decide) (Yd.mv rfl (.t rfl)) ?_
    refine W.q rfl rfl rfl rfl (by decide) (Yd.eql rfl (.t rfl) .c) ?_
    refine W.q rfl rfl rfl rfl (by decide) (Yd.mv rfl (.t rfl)) ?_
    refine W.g rfl rfl rfl rfl rfl (.t rfl _) rfl (by decide) (fun hG => Yd.mv rfl (.t rfl)) ?_
    refine W.g rfl rfl rfl rfl rfl (.t rfl _) rfl (by decide) (fun hG => Yd.call (v := .int .i64 ((((syllogistref_Size right_4).getD (0 : Int))))) rfl Try.func51 rfl rfl (.cons (.g rfl hG) .nil) (fun x' hx w hw => syllogistref_Size_ok w0 x'.m x'.l right_4 _ (gd_get (d := (0 : Int)) ha6 hG) w hw)) ?_
    refine W.g rfl rfl rfl rfl rfl (.t rfl _) rfl (by decide) (fun hG => Yd.neq rfl (.g rfl hG) .c) ?_
    refine W.q rfl rfl rfl rfl (by decide) (Yd.and rfl (.t rfl) .c rfl rfl) ?_
    refine W.end ?_
    refine NX.sub (env' := [(11, _), (46, _)]) ⟨rfl, rfl, trivial⟩ ?_
    refine NX.then ?_
    refine Tr.cond (.t rfl) (fun hb => ?_) (fun hb => ?_)
    · have hr := cond_t hb hr
      refine Tr.region_f (fun _ => false) ?_
      refine W.q rfl rfl rfl rfl (by decide) (Yd.as rfl .c) ?_
      refine W.end ?_
      refine NX.sub (env' := [(11, _)]) ⟨rfl, trivial⟩ ?_
      refine NX.then ?_
      refine Tr.seq ?_
      refine Tr.region_f (fun _ => false) ?_
      refine W.q rfl rfl rfl rfl (by decide) (Yd.mv rfl (.t rfl)) ?_
      refine W.q rfl rfl rfl rfl (by decide) (Yd.as rfl (.t rfl)) ?_
      refine W.end ?_
      refine NX.sub (env' := [(10, _)]) ⟨rfl, trivial⟩ ?_
      refine NX.then ?_
      refine Tr.ret' ?_
      refine res1 rfl rfl ?_
      intro w hc
      cases hr
      exact ⟨rfl, hc⟩
    · have hr := cond_f hb hr
      refine Tr.skip' ?_
      refine NX.then ?_
      refine Tr.seq ?_
      refine Tr.region_f (fun _ => false) ?_
      refine W.q rfl rfl rfl rfl (by decide) (Yd.mv rfl (.t rfl)) ?_
      refine W.q rfl rfl rfl rfl (by decide) (Yd.as rfl (.t rfl)) ?_
      refine W.end ?_
      refine NX.sub (env' := [(10, _)]) ⟨rfl, trivial⟩ ?_
      refine NX.then ?_
      refine Tr.ret' ?_
      refine res1 rfl rfl ?_
      intro w hc
      cases hr
      exact ⟨rfl, hc⟩
  refine Tr.cond (.t rfl) (fun hb => ?_) (fun hb => ?_)
  · have hr := cond_t hb hr
    refine Tr.region_f (fun _ => false) ?_
    refine W.q rfl rfl rfl rfl (by decide) (Yd.as rfl .c) ?_
    refine W.end ?_
    refine NX.sub (env' := [(4, _), (11, _)]) ⟨rfl, rfl, trivial⟩ ?_
    refine NX.sub (env' := [(4, _), (11, _)]) ⟨rfl, rfl, trivial⟩ ?_
    exact hk5 _ _ ⟨_, rfl, rfl, hr⟩
  · have hr := cond_f hb hr
    refine Tr.skip' ?_
    refine NX.sub (env' := [(4, _), (11, _)]) ⟨rfl, rfl, trivial⟩ ?_
    exact hk5 _ _ ⟨_, rfl, rfl, hr⟩

def syllogistref_Over_k6 (r_5 : BitVec 32) : Option ((BitVec 32)) :=
  some r_5

def syllogistref_Over_b10 (edges_0 : List Edge) (a_1 : Int) (b_2 : Int) (t_9 : Int) (r_3 : BitVec 32) (nx11 : (BitVec 32) → Option ((BitVec 32))) : Option ((BitVec 32)) :=
  (geti edges_0 t_9).bind fun y13 =>
  (bif ((y13.src == a_1) && (y13.to == b_2)) then
  nx11 (r_3 ||| y13.rights)
  else
  nx11 r_3)

def syllogistref_Over (edges_0 : List Edge) (a_1 : Int) (b_2 : Int) : Option ((BitVec 32)) :=
  forK (σ := (BitVec 32)) (fun i s nx_ => syllogistref_Over_b10 edges_0 a_1 b_2 i s nx_) (fun s => syllogistref_Over_k6 s) ((edges_0.length : Int) - (0 : Int)).toNat (0 : Int) (0#32)

set_option maxRecDepth 100000 in
set_option maxHeartbeats 4000000 in
theorem syllogistref_Over_ok (w0 : World) (m : Snap) (l : List HI) (uedges_0 : Value) (edges_0 : List Edge) (hedges_0 : RS rEdge m uedges_0 edges_0) (a_1 : Int) (b_2 : Int) (r : (BitVec 32)) (hr : syllogistref_Over edges_0 a_1 b_2 = some r) (w : World) (hc : cX w0 ⟨m, l⟩ w) :
    Calls Try.prog 31 [uedges_0, .int .i64 a_1, .int .i64 b_2].toArray w fun e w' => e = .returned (.int .u32 (r.toNat : Int)) ∧ cX w0 ⟨m, l⟩ w' := by
  unfold syllogistref_Over at hr
  refine calls_of_Tr (N := 32) Try.func31 rfl hc rfl (Nat.le_of_ble_eq_true rfl) ?_
  refine Tr.seq ?_
  refine Tr.region_f (fun _ => false) ?_
  refine W.q rfl rfl rfl rfl (by decide) (Yd.as rfl .c) ?_
  refine W.end ?_
  refine NX.sub (env' := [(0, _), (1, _), (2, _)]) ⟨rfl, rfl, rfl, trivial⟩ ?_
  refine NX.then ?_
  refine Tr.seq ?_
  refine Tr.region_f (fun _ => false) ?_
  refine W.q rfl rfl rfl rfl (by decide) (Yd.as rfl .c) ?_
  refine W.end ?_
  refine NX.sub (env' := [(0, _), (1, _), (2, _), (7, _)]) ⟨rfl, rfl, rfl, rfl, trivial⟩ ?_
  refine NX.then ?_
  refine Tr.seq ?_
  refine Tr.seq ?_
  refine Tr.region_f (fun _ => false) ?_
  refine W.q rfl rfl rfl rfl (by decide) (Yd.mv rfl (.t rfl)) ?_
  refine W.q rfl rfl rfl rfl (by decide) (Yd.lenR hedges_0 rfl Try.underlying43 (.t rfl)) ?_
  refine W.q rfl rfl rfl rfl (by decide) (Yd.mv rfl .c) ?_
  refine W.end ?_
  refine NX.sub (env' := [(1, _), (2, _), (7, _), (10, _), (11, _), (12, _)]) ⟨rfl, rfl, rfl, rfl, rfl, rfl, trivial⟩ ?_
  refine NX.then ?_
  refine Tr.join (S := fun env x => ∃ r_5 : BitVec 32, env = [(7, .int .u32 (r_5.toNat : Int))] ∧ x = ⟨m, l⟩ ∧ syllogistref_Over_k6 r_5 = some r) ?_ (fun hk7 => ?_)
  · rintro _ _ ⟨r_5, rfl, rfl, hr⟩
    unfold syllogistref_Over_k6 at hr
    try dsimp only at hr
    refine NX.then ?_
    refine Tr.seq ?_
    refine Tr.region_f (fun _ => false) ?_
    refine W.q rfl rfl rfl rfl (by decide) (Yd.mv rfl (.t rfl)) ?_
    refine W.q rfl rfl rfl rfl (by decide) (Yd.as rfl (.t rfl)) ?_
    refine W.end ?_
    refine NX.sub (env' := [(6, _)]) ⟨rfl, trivial⟩ ?_
    refine NX.then ?_
    refine Tr.ret' ?_
    refine res1 rfl rfl ?_
    intro w hc
    cases hr
    exact ⟨rfl, hc⟩
  have hlen8 := (hedges_0).2.1
  refine Tr.block ?_
  refine Tr.sub (env' := [(1, _), (2, _), (7, _), (10, _), (11, _), (12, _)]) ⟨rfl, rfl, rfl, rfl, rfl, rfl, trivial⟩ ?_
  refine Tr.loop (S := fun n (z : Int × (BitVec 32)) env x => match z with | (t_9, r_3) => env = [(1, .int .i64 a_1), (2, .int .i64 b_2), (7, .int .u32 (r_3.toNat : Int)), (10, uedges_0), (11, .int .i64 ((edges_0.length : Int))), (12, .int .i64 t_9)] ∧ x = ⟨m, l⟩ ∧ n = ((edges_0.length : Int) - t_9).toNat ∧ 0 ≤ t_9 ∧ forK (σ := (BitVec 32)) (fun i s nx_ => syllogistref_Over_b10 edges_0 a_1 b_2 i s nx_) (fun s => syllogistref_Over_k6 s) n t_9 r_3 = some r) _ ((0 : Int), 0#32) ⟨rfl, rfl, rfl, (by omega), hr⟩ ?_
  rintro n12 ⟨t_9, r_3⟩ env x ⟨rfl, rfl, hnt_9, h0t_9, hr⟩
  cases n12 with
  | zero =>
    simp only [forK] at hr
    refine Tr.seq ?_
    refine Tr.region_f (fun _ => false) ?_
    refine W.q rfl rfl rfl rfl (by decide) (Yd.lss rfl (.t rfl) (.t rfl)) ?_
    refine W.end ?_
    refine NX.sub (env' := [(1, _), (2, _), (7, _), (10, _), (11, _), (12, _), (13, _)]) ⟨rfl, rfl, rfl, rfl, rfl, rfl, rfl, trivial⟩ ?_
    refine NX.then ?_
    refine Tr.seq ?_
    refine Tr.cond (.t rfl) (fun hb => ?_) (fun hb => ?_)
    · exact absurd (hb.symm.trans (fr_end hnt_9)) (by decide)
    ·
      refine Tr.exit' (EX.then (EX.then (EX.block ?_)))
      refine NX.sub (env' := [(7, _)]) ⟨rfl, trivial⟩ ?_
      exact hk7 _ _ ⟨_, rfl, rfl, hr⟩
  | succ n12 =>
    obtain ⟨nx11, hnx11, hr⟩ := forK_succ hr
    try dsimp only at hr
    unfold syllogistref_Over_b10 at hr
    try dsimp only at hr
    have hltt_9 := fr_bnd hnt_9
    refine Tr.seq ?_
    refine Tr.region_f (fun _ => false) ?_
    refine W.q rfl rfl rfl rfl (by decide) (Yd.lss rfl (.t rfl) (.t rfl)) ?_
    refine W.end ?_
    refine NX.sub (env' := [(1, _), (2, _), (7, _), (10, _), (11, _), (12, _), (13, _)]) ⟨rfl, rfl, rfl, rfl, rfl, rfl, rfl, trivial⟩ ?_
    refine NX.then ?_
    refine Tr.seq ?_
    refine Tr.cond (.t rfl) (fun hb => ?_) (fun hb => ?_)
    rotate_left
    · exact absurd (hb.symm.trans (fr_go hnt_9)) (by decide)
    ·
      refine Tr.skip' ?_
      refine NX.then ?_
      refine Tr.seq ?_
      refine Tr.block ?_
      refine Tr.seq ?_
      obtain ⟨y13, hy14, hr⟩ := bind_some hr
      refine Tr.region_f (fun i => Nat.beq i 2 || Nat.beq i 3) ?_
      refine W.q rfl rfl rfl rfl (by decide) (Yd.idxR hedges_0 hy14 rfl Try.underlying43 SZ100 (.t rfl) (.t rfl)) ?_
      refine W.q rfl rfl rfl rfl (by decide) (Yd.ldFs (us := [_, _, _]) hedges_0 (.refl _) hy14 rfl rfl ON100 US100 SZ100 (.t rfl)) ?_
      refine W.e rfl rfl rfl rfl (by decide) (Ef.al rfl ZR100 rfl) ?_
      rintro _ _ ⟨b15, rfl, rfl⟩
      refine ⟨.inl rfl, ?_⟩
      refine W.cast (m' := m) (l' := hcells b15 [_, _, _] 100 :: l) rfl rfl ?_
      refine W.s rfl rfl rfl rfl (Ef.stB (pos := 0) (us := [_, _, _]) (cs' := [_, _, _]) rfl rfl (.t rfl) (.t rfl) SZ100 rfl rfl rfl (Nat.le_of_ble_eq_true rfl) rfl) ?_
      rintro _ _ ⟨rfl, rfl⟩
      refine ⟨.inl rfl, ?_⟩
      refine W.cast (m' := m) (l' := hcells b15 [_, _, _] 100 :: l) rfl rfl ?_
      refine W.end ?_
      refine NX.sub (env' := [(1, _), (2, _), (7, _), (10, _), (11, _), (12, _), (9, _)]) ⟨rfl, rfl, rfl, rfl, rfl, rfl, rfl, trivial⟩ ?_
      refine NX.then ?_
      refine Tr.seq ?_
      refine Tr.region_f (fun _ => false) ?_
      refine W.q rfl rfl rfl rfl (by decide) (Yd.fldB rfl Try.underlying100 rfl SZ3 rfl (.t rfl)) ?_
      refine W.q rfl rfl rfl rfl (by decide) (Yd.ldB (pos := 0) rfl rfl rfl ON3 (.t rfl)) ?_
      refine W.q rfl rfl rfl rfl (by decide) (Yd.mv rfl (.t rfl)) ?_
      refine W.q rfl rfl rfl rfl (by decide) (Yd.eql rfl (.t rfl) (.t rfl)) ?_
      refine W.q rfl rfl rfl rfl (by decide) (Yd.mv rfl (.t rfl)) ?_
      refine W.g rfl rfl rfl rfl rfl (.t rfl _) rfl (by decide) (fun hG => Yd.fldB rfl Try.underlying100 rfl SZ3 rfl (.t rfl)) ?_
      refine W.g rfl rfl rfl rfl rfl (.t rfl _) rfl (by decide) (fun hG => Yd.ldB (pos := 0) rfl rfl rfl ON3 (.g rfl hG)) ?_
      refine W.g rfl rfl rfl rfl rfl (.t rfl _) rfl (by decide) (fun hG => Yd.mv rfl (.t rfl)) ?_
      refine W.g rfl rfl rfl rfl rfl (.t rfl _) rfl (by decide) (fun hG => Yd.eql rfl (.g rfl hG) (.g rfl hG)) ?_
      refine W.q rfl rfl rfl rfl (by decide) (Yd.and rfl (.t rfl) .c rfl rfl) ?_
      refine W.end ?_
      refine NX.sub (env' := [(1, _), (2, _), (7, _), (10, _), (11, _), (12, _), (9, _), (25, _)]) ⟨rfl, rfl, rfl, rfl, rfl, rfl, rfl, rfl, trivial⟩ ?_
      refine NX.then ?_
      refine Tr.cond (.t rfl) (fun hb => ?_) (fun hb => ?_)
      · have hr := cond_t hb hr
        refine Tr.region_f (fun _ => false) ?_
        refine W.q rfl rfl rfl rfl (by decide) (Yd.mv rfl (.t rfl)) ?_
        refine W.q rfl rfl rfl rfl (by decide) (Yd.fldB rfl Try.underlying100 rfl SZ33 rfl (.t rfl)) ?_
        refine W.q rfl rfl rfl rfl (by decide) (Yd.ldB (pos := 0) rfl rfl rfl ON33 (.t rfl)) ?_
        refine W.q rfl rfl rfl rfl (by decide) (Yd.orU (a := r_3) (b := y13.rights) rfl (.t rfl) (.t rfl)) ?_
        refine W.q rfl rfl rfl rfl (by decide) (Yd.as rfl (.t rfl)) ?_
        refine W.end ?_
        refine NX.sub (env' := [(1, _), (2, _), (7, _), (10, _), (11, _), (12, _)]) ⟨rfl, rfl, rfl, rfl, rfl, rfl, trivial⟩ ?_
        refine NX.drop (l' := l) (.cons _ (.refl _)) ?_
        refine NX.block ?_
        refine NX.then ?_
        refine Tr.region_f (fun _ => false) ?_
        refine W.q rfl rfl rfl rfl (by decide) (Yd.add rfl (.t rfl) .c) ?_
        refine W.q rfl rfl rfl rfl (by decide) (Yd.mv rfl (.t rfl)) ?_
        refine W.end ?_
        refine NX.sub (env' := [(1, _), (2, _), (7, _), (10, _), (11, _), (12, _)]) ⟨rfl, rfl, rfl, rfl, rfl, rfl, trivial⟩ ?_
        refine NX.sub (env' := [(1, _), (2, _), (7, _), (10, _), (11, _), (12, _)]) ⟨rfl, rfl, rfl, rfl, rfl, rfl, trivial⟩ ?_
        have hw := w64_id (n := t_9 + 1) (by omega) (by omega)
        exact NX.again n12 (t_9 + 1, (r_3 ||| y13.rights)) (Nat.lt_succ_self _) ⟨(by rw [hw] <;> rfl), rfl, (fr_dec hnt_9), (by omega), ((hnx11 _).symm.trans hr)⟩
      · have hr := cond_f hb hr
        refine Tr.skip' ?_
        refine NX.block ?_
        refine NX.then ?_
        refine Tr.region_f (fun _ => false) ?_
        refine W.q rfl rfl rfl rfl (by decide) (Yd.add rfl (.t rfl) .c) ?_
        refine W.q rfl rfl rfl rfl (by decide) (Yd.mv rfl (.t rfl)) ?_
        refine W.end ?_
        refine NX.sub (env' := [(1, _), (2, _), (7, _), (10, _), (11, _), (12, _)]) ⟨rfl, rfl, rfl, rfl, rfl, rfl, trivial⟩ ?_
        refine NX.drop (l' := l) (.cons _ (.refl _)) ?_
        refine NX.sub (env' := [(1, _), (2, _), (7, _), (10, _), (11, _), (12, _)]) ⟨rfl, rfl, rfl, rfl, rfl, rfl, trivial⟩ ?_
        have hw := w64_id (n := t_9 + 1) (by omega) (by omega)
        exact NX.again n12 (t_9 + 1, r_3) (Nat.lt_succ_self _) ⟨(by rw [hw] <;> rfl), rfl, (fr_dec hnt_9), (by omega), ((hnx11 _).symm.trans hr)⟩

def syllogistref_In (a_0 : (BitVec 32)) (b_1 : (BitVec 32)) : Option (Bool) :=
  some (((a_0 ||| b_1) == b_1))

set_option maxRecDepth 100000 in
set_option maxHeartbeats 4000000 in
theorem syllogistref_In_ok (w0 : World) (m : Snap) (l : List HI) (a_0 : (BitVec 32)) (b_1 : (BitVec 32)) (r : Bool) (hr : syllogistref_In a_0 b_1 = some r) (w : World) (hc : cX w0 ⟨m, l⟩ w) :
    Calls Try.prog 19 [.int .u32 (a_0.toNat : Int), .int .u32 (b_1.toNat : Int)].toArray w fun e w' => e = .returned (.bool r) ∧ cX w0 ⟨m, l⟩ w' := by
  unfold syllogistref_In at hr
  refine calls_of_Tr (N := 10) Try.func19 rfl hc rfl (Nat.le_of_ble_eq_true rfl) ?_
  refine Tr.seq ?_
  refine Tr.region_f (fun _ => false) ?_
  refine W.q rfl rfl rfl rfl (by decide) (Yd.as rfl .c) ?_
  refine W.end ?_
  refine NX.sub (env' := [(0, _), (1, _)]) ⟨rfl, rfl, trivial⟩ ?_
  refine NX.then ?_
  refine Tr.seq ?_
  refine Tr.region_f (fun _ => false) ?_
  refine W.q rfl rfl rfl rfl (by decide) (Yd.mv rfl (.t rfl)) ?_
  refine W.q rfl rfl rfl rfl (by decide) (Yd.mv rfl (.t rfl)) ?_
  refine W.q rfl rfl rfl rfl (by decide) (Yd.orU (a := a_0) (b := b_1) rfl (.t rfl) (.t rfl)) ?_
  refine W.q rfl rfl rfl rfl (by decide) (Yd.mv rfl (.t rfl)) ?_
  refine W.q rfl rfl rfl rfl (by decide) (Yd.eqlU (a := (a_0 ||| b_1)) (b := b_1) rfl (.t rfl) (.t rfl)) ?_
  refine W.q rfl rfl rfl rfl (by decide) (Yd.as rfl (.t rfl)) ?_
  refine W.end ?_
  refine NX.sub (env' := [(4, _)]) ⟨rfl, trivial⟩ ?_
  refine NX.then ?_
  refine Tr.ret' ?_
  refine res1 rfl rfl ?_
  intro w hc
  cases hr
  exact ⟨rfl, hc⟩

def syllogistref_Has_k3 : Option (Bool) :=
  some false

def syllogistref_Has_b7 (l_0 : List Int) (x_1 : Int) (t_6 : Int) (nx8 : Unit → Option (Bool)) : Option (Bool) :=
  (geti l_0 t_6).bind fun y10 =>
  (bif (x_1 == y10) then
  some true
  else
  nx8 ())

def syllogistref_Has (l_0 : List Int) (x_1 : Int) : Option (Bool) :=
  forK (σ := Unit) (fun i s nx_ => syllogistref_Has_b7 l_0 x_1 i nx_) (fun _ => syllogistref_Has_k3) ((l_0.length : Int) - (0 : Int)).toNat (0 : Int) ()

set_option maxRecDepth 100000 in
set_option maxHeartbeats 4000000 in
theorem syllogistref_Has_ok (w0 : World) (m : Snap) (l : List HI) (ul_0 : Value) (l_0 : List Int) (hl_0 : RS rI m ul_0 l_0) (x_1 : Int) (r : Bool) (hr : syllogistref_Has l_0 x_1 = some r) (w : World) (hc : cX w0 ⟨m, l⟩ w) :
    Calls Try.prog 52 [ul_0, .int .i64 x_1].toArray w fun e w' => e = .returned (.bool r) ∧ cX w0 ⟨m, l⟩ w' := by
  unfold syllogistref_Has at hr
  refine calls_of_Tr (N := 17) Try.func52 rfl hc rfl (Nat.le_of_ble_eq_true rfl) ?_
  refine Tr.seq ?_
  refine Tr.region_f (fun _ => false) ?_
  refine W.q rfl rfl rfl rfl (by decide) (Yd.as rfl .c) ?_
  refine W.end ?_
  refine NX.sub (env' := [(0, _), (1, _)]) ⟨rfl, rfl, trivial⟩ ?_
  refine NX.then ?_
  refine Tr.seq ?_
  refine Tr.seq ?_
  refine Tr.region_f (fun _ => false) ?_
  refine W.q rfl rfl rfl rfl (by decide) (Yd.mv rfl (.t rfl)) ?_
  refine W.q rfl rfl rfl rfl (by decide) (Yd.lenR hl_0 rfl Try.underlying84 (.t rfl)) ?_
  refine W.q rfl rfl rfl rfl (by decide) (Yd.mv rfl .c) ?_
  refine W.end ?_
  refine NX.sub (env' := [(1, _), (7, _), (8, _), (9, _)]) ⟨rfl, rfl, rfl, rfl, trivial⟩ ?_
  refine NX.then ?_
  refine Tr.join (S := fun env x => env = [] ∧ x = ⟨m, l⟩ ∧ syllogistref_Has_k3 = some r) ?_ (fun hk4 => ?_)
  · rintro _ _ ⟨rfl, rfl, hr⟩
    unfold syllogistref_Has_k3 at hr
    try dsimp only at hr
    refine NX.then ?_
    refine Tr.seq ?_
    refine Tr.region_f (fun _ => false) ?_
    refine W.q rfl rfl rfl rfl (by decide) (Yd.as rfl .c) ?_
    refine W.end ?_
    refine NX.sub (env' := [(4, _)]) ⟨rfl, trivial⟩ ?_
    refine NX.then ?_
    refine Tr.ret' ?_
    refine res1 rfl rfl ?_
    intro w hc
    cases hr
    exact ⟨rfl, hc⟩
  have hlen5 := (hl_0).2.1
  refine Tr.block ?_
  refine Tr.sub (env' := [(1, _), (7, _), (8, _), (9, _)]) ⟨rfl, rfl, rfl, rfl, trivial⟩ ?_
  refine Tr.loop (S := fun n (z : Int × Unit) env x => match z with | (t_6, _) => env = [(1, .int .i64 x_1), (7, ul_0), (8, .int .i64 ((l_0.length : Int))), (9, .int .i64 t_6)] ∧ x = ⟨m, l⟩ ∧ n = ((l_0.length : Int) - t_6).toNat ∧ 0 ≤ t_6 ∧ forK (σ := Unit) (fun i s nx_ => syllogistref_Has_b7 l_0 x_1 i nx_) (fun _ => syllogistref_Has_k3) n t_6 () = some r) _ ((0 : Int), ()) ⟨rfl, rfl, rfl, (by omega), hr⟩ ?_
  rintro n9 ⟨t_6, _⟩ env x ⟨rfl, rfl, hnt_6, h0t_6, hr⟩
  cases n9 with
  | zero =>
    simp only [forK] at hr
    refine Tr.seq ?_
    refine Tr.region_f (fun _ => false) ?_
    refine W.q rfl rfl rfl rfl (by decide) (Yd.lss rfl (.t rfl) (.t rfl)) ?_
    refine W.end ?_
    refine NX.sub (env' := [(1, _), (7, _), (8, _), (9, _), (10, _)]) ⟨rfl, rfl, rfl, rfl, rfl, trivial⟩ ?_
    refine NX.then ?_
    refine Tr.seq ?_
    refine Tr.cond (.t rfl) (fun hb => ?_) (fun hb => ?_)
    · exact absurd (hb.symm.trans (fr_end hnt_6)) (by decide)
    ·
      refine Tr.exit' (EX.then (EX.then (EX.block ?_)))
      refine NX.sub (env' := []) trivial ?_
      exact hk4 _ _ ⟨rfl, rfl, hr⟩
  | succ n9 =>
    obtain ⟨nx8, hnx8, hr⟩ := forK_succ hr
    try dsimp only at hr
    unfold syllogistref_Has_b7 at hr
    try dsimp only at hr
    have hltt_6 := fr_bnd hnt_6
    refine Tr.seq ?_
    refine Tr.region_f (fun _ => false) ?_
    refine W.q rfl rfl rfl rfl (by decide) (Yd.lss rfl (.t rfl) (.t rfl)) ?_
    refine W.end ?_
    refine NX.sub (env' := [(1, _), (7, _), (8, _), (9, _), (10, _)]) ⟨rfl, rfl, rfl, rfl, rfl, trivial⟩ ?_
    refine NX.then ?_
    refine Tr.seq ?_
    refine Tr.cond (.t rfl) (fun hb => ?_) (fun hb => ?_)
    rotate_left
    · exact absurd (hb.symm.trans (fr_go hnt_6)) (by decide)
    ·
      refine Tr.skip' ?_
      refine NX.then ?_
      refine Tr.seq ?_
      refine Tr.block ?_
      refine Tr.seq ?_
      obtain ⟨y10, hy11, hr⟩ := bind_some hr
      refine Tr.region_f (fun _ => false) ?_
      refine W.q rfl rfl rfl rfl (by decide) (Yd.idxR hl_0 hy11 rfl Try.underlying84 SZ3 (.t rfl) (.t rfl)) ?_
      refine W.q rfl rfl rfl rfl (by decide) (Yd.ldF hl_0 (.refl _) hy11 rfl rfl ON3 (.t rfl)) ?_
      refine W.q rfl rfl rfl rfl (by decide) (Yd.as rfl (.t rfl)) ?_
      refine W.end ?_
      refine NX.sub (env' := [(1, _), (7, _), (8, _), (9, _), (6, _)]) ⟨rfl, rfl, rfl, rfl, rfl, trivial⟩ ?_
      refine NX.then ?_
      refine Tr.seq ?_
      refine Tr.region_f (fun _ => false) ?_
      refine W.q rfl rfl rfl rfl (by decide) (Yd.mv rfl (.t rfl)) ?_
      refine W.q rfl rfl rfl rfl (by decide) (Yd.mv rfl (.t rfl)) ?_
      refine W.q rfl rfl rfl rfl (by decide) (Yd.eql rfl (.t rfl) (.t rfl)) ?_
      refine W.end ?_
      refine NX.sub (env' := [(1, _), (7, _), (8, _), (9, _), (15, _)]) ⟨rfl, rfl, rfl, rfl, rfl, trivial⟩ ?_
      refine NX.then ?_
      refine Tr.cond (.t rfl) (fun hb => ?_) (fun hb => ?_)
      · have hr := cond_t hb hr
        refine Tr.seq ?_
        refine Tr.region_f (fun _ => false) ?_
        refine W.q rfl rfl rfl rfl (by decide) (Yd.as rfl .c) ?_
        refine W.end ?_
        refine NX.sub (env' := [(4, _)]) ⟨rfl, trivial⟩ ?_
        refine NX.then ?_
        refine Tr.ret' (RT.block (RT.then (RT.then (RT.block (RT.then ?_)))))
        refine res1 rfl rfl ?_
        intro w hc
        cases hr
        exact ⟨rfl, hc⟩
      · have hr := cond_f hb hr
        refine Tr.skip' ?_
        refine NX.block ?_
        refine NX.then ?_
        refine Tr.region_f (fun _ => false) ?_
        refine W.q rfl rfl rfl rfl (by decide) (Yd.add rfl (.t rfl) .c) ?_
        refine W.q rfl rfl rfl rfl (by decide) (Yd.mv rfl (.t rfl)) ?_
        refine W.end ?_
        refine NX.sub (env' := [(1, _), (7, _), (8, _), (9, _)]) ⟨rfl, rfl, rfl, rfl, trivial⟩ ?_
        refine NX.sub (env' := [(1, _), (7, _), (8, _), (9, _)]) ⟨rfl, rfl, rfl, rfl, trivial⟩ ?_
        have hw := w64_id (n := t_6 + 1) (by omega) (by omega)
        exact NX.again n9 (t_6 + 1, ()) (Nat.lt_succ_self _) ⟨(by rw [hw] <;> rfl), rfl, (fr_dec hnt_6), (by omega), ((hnx8 _).symm.trans hr)⟩

def syllogistref_Can_k11 : Option (Bool) :=
  some false

def syllogistref_Can_k28 (k_6 : Int) (nx14 : ((Int × (List Int)) → Option (Bool))) (l26 : List Int) : Option (Bool) :=
  nx14 ((w64 (k_6 + (1 : Int))), l26)

def syllogistref_Can_k44 (k_6 : Int) (nx33 : ((List Int) → Option (Bool))) (y35 : Edge) (l42 : List Int) : Option (Bool) :=
  (geti l42 k_6).bind fun y46 =>
  bif (!((y35.to == y46) == true) || (syllogistref_Has l42 y35.src).isSome) then
  (bif ((y35.to == y46) && (!(((syllogistref_Has l42 y35.src).getD false)))) then
  bif decide (l42.length + (([y35.src] : List Int)).length ≤ 17592186044416) then
  nx33 (l42 ++ ([y35.src] : List Int)) else none
  else
  nx33 l42) else none

def syllogistref_Can_b32 (edges_0 : List Edge) (k_6 : Int) (t_31 : Int) (l24 : List Int) (nx33 : (List Int) → Option (Bool)) : Option (Bool) :=
  (geti edges_0 t_31).bind fun y35 =>
  (bif ((y35.rights &&& 3#32) == 0#32) then
  nx33 l24
  else
  (geti l24 k_6).bind fun y39 =>
  bif (!((y35.src == y39) == true) || (syllogistref_Has l24 y35.to).isSome) then
  (bif ((y35.src == y39) && (!(((syllogistref_Has l24 y35.to).getD false)))) then
  bif decide (l24.length + (([y35.to] : List Int)).length ≤ 17592186044416) then
  syllogistref_Can_k44 k_6 nx33 y35 ((l24 ++ ([y35.to] : List Int))) else none
  else
  syllogistref_Can_k44 k_6 nx33 y35 l24) else none)

def syllogistref_Can_b13 (edges_0 : List Edge) (y_2 : Int) (right_3 : (BitVec 32)) (k_6 : Int) (l7 : List Int) (nx14 : (Int × (List Int)) → Option (Bool)) : Option (Bool) :=
  (bif (decide (k_6 < (l7.length : Int))) then
  (geti l7 k_6).bind fun y16 =>
  bif (!((y16 != y_2) == true) || (syllogistref_Over edges_0 y16 y_2).isSome) then
  bif (!((y16 != y_2) == true) || (syllogistref_In right_3 ((((syllogistref_Over edges_0 y16 y_2).getD (0#32))))).isSome) then
  (bif ((y16 != y_2) && (((syllogistref_In right_3 ((((syllogistref_Over edges_0 y16 y_2).getD (0#32))))).getD false))) then
  some true
  else
  forK (σ := (List Int)) (fun i s nx_ => syllogistref_Can_b32 edges_0 k_6 i s nx_) (fun s => syllogistref_Can_k28 k_6 nx14 s) ((edges_0.length : Int) - (0 : Int)).toNat (0 : Int) l7) else none else none
  else
  syllogistref_Can_k11)

def syllogistref_Can (fuel : Nat) (edges_0 : List Edge) (x_1 : Int) (y_2 : Int) (right_3 : (BitVec 32)) : Option (Bool) :=
  whileK (σ := Int × (List Int)) (fun s nx_ => syllogistref_Can_b13 edges_0 y_2 right_3 s.1 s.2 nx_) fuel (((0 : Int)), (([x_1] : List Int)))

set_option maxRecDepth 100000 in
set_option maxHeartbeats 4000000 in
theorem syllogistref_Can_ok (w0 : World) (m : Snap) (l : List HI) (fuel : Nat) (uedges_0 : Value) (edges_0 : List Edge) (hedges_0 : RS rEdge m uedges_0 edges_0) (x_1 : Int) (y_2 : Int) (right_3 : (BitVec 32)) (r : Bool) (hr : syllogistref_Can fuel edges_0 x_1 y_2 right_3 = some r) (w : World) (hc : cX w0 ⟨m, l⟩ w) :
    Calls Try.prog 29 [uedges_0, .int .i64 x_1, .int .i64 y_2, .int .u32 (right_3.toNat : Int)].toArray w fun e w' => e = .returned (.bool r) ∧ cX w0 ⟨m, l⟩ w' := by
  unfold syllogistref_Can at hr
  refine calls_of_Tr (N := 87) Try.func29 rfl hc rfl (Nat.le_of_ble_eq_true rfl) ?_
  refine Tr.seq ?_
  refine Tr.region_f (fun _ => false) ?_
  refine W.q rfl rfl rfl rfl (by decide) (Yd.as rfl .c) ?_
  refine W.end ?_
  refine NX.sub (env' := [(0, _), (1, _), (2, _), (3, _)]) ⟨rfl, rfl, rfl, rfl, trivial⟩ ?_
  refine NX.then ?_
  refine Tr.seq ?_
  refine Tr.region_f (fun i => Nat.beq i 1) ?_
  refine W.q rfl rfl rfl rfl (by decide) (Yd.mv rfl (.t rfl)) ?_
  refine W.e rfl rfl rfl rfl (by decide) (Ef.bsT (enc := encI) (vs := [_]) (ys := [x_1]) (fun _ => rfl) IF3 rfl Try.underlying84 (by decide) rfl (.cons (.t rfl) .nil) rfl rfl (by decide)) ?_
  rintro v1 _ rfl
  refine ⟨.inl rfl, ?_⟩
  refine W.cast (m' := m) (l' := hownT 3 1 encI v1 _ :: l) rfl rfl ?_
  refine W.q rfl rfl rfl rfl (by decide) (Yd.as rfl (.t rfl)) ?_
  refine W.end ?_
  refine NX.sub (env' := [(0, _), (2, _), (3, _), (9, _)]) ⟨rfl, rfl, rfl, rfl, trivial⟩ ?_
  refine NX.then ?_
  refine Tr.seq ?_
  refine Tr.seq ?_
  refine Tr.region_f (fun _ => false) ?_
  refine W.q rfl rfl rfl rfl (by decide) (Yd.as rfl .c) ?_
  refine W.end ?_
  refine NX.sub (env' := [(0, _), (2, _), (3, _), (9, _), (10, _)]) ⟨rfl, rfl, rfl, rfl, rfl, trivial⟩ ?_
  refine NX.then ?_
  refine Tr.join (S := fun env x => env = [] ∧ x = ⟨m, l⟩ ∧ syllogistref_Can_k11 = some r) ?_ (fun hk12 => ?_)
  · rintro _ _ ⟨rfl, rfl, hr⟩
    unfold syllogistref_Can_k11 at hr
    try dsimp only at hr
    refine NX.then ?_
    refine Tr.seq ?_
    refine Tr.region_f (fun _ => false) ?_
    refine W.q rfl rfl rfl rfl (by decide) (Yd.as rfl .c) ?_
    refine W.end ?_
    refine NX.sub (env' := [(8, _)]) ⟨rfl, trivial⟩ ?_
    refine NX.then ?_
    refine Tr.ret' ?_
    refine res1 rfl rfl ?_
    intro w hc
    cases hr
    exact ⟨rfl, hc⟩
  refine Tr.block ?_
  refine Tr.sub (env' := [(0, _), (2, _), (3, _), (9, _), (10, _)]) ⟨rfl, rfl, rfl, rfl, rfl, trivial⟩ ?_
  refine Tr.loop (S := fun n (z : Int × (List Int)) env x => match z with | (k_6, l7) => ∃ v8 : Value, env = [(0, uedges_0), (2, .int .i64 y_2), (3, .int .u32 (right_3.toNat : Int)), (9, v8), (10, .int .i64 k_6)] ∧ x = ⟨m, hownT 3 1 encI v8 l7 :: l⟩ ∧ whileK (σ := Int × (List Int)) (fun s nx_ => syllogistref_Can_b13 edges_0 y_2 right_3 s.1 s.2 nx_) n (k_6, l7) = some r) _ ((0 : Int), ([x_1] : List Int)) ⟨_, rfl, rfl, hr⟩ ?_
  rintro n15 ⟨k_6, l7⟩ env x ⟨v8, rfl, rfl, hr⟩
  cases n15 with
  | zero => simp [whileK] at hr
  | succ n15 =>
    obtain ⟨nx14, hnx14, hr⟩ := whileK_succ hr
    try dsimp only at hr
    unfold syllogistref_Can_b13 at hr
    try dsimp only at hr
    refine Tr.seq ?_
    refine Tr.seq ?_
    refine Tr.region_f (fun _ => false) ?_
    refine W.q rfl rfl rfl rfl (by decide) (Yd.mv rfl (.t rfl)) ?_
    refine W.q rfl rfl rfl rfl (by decide) (Yd.mv rfl (.t rfl)) ?_
    refine W.q rfl rfl rfl rfl (by decide) (Yd.lenO (p := 0) rfl rfl Try.underlying84 (.t rfl)) ?_
    refine W.q rfl rfl rfl rfl (by decide) (Yd.lss rfl (.t rfl) (.t rfl)) ?_
    refine W.end ?_
    refine NX.sub (env' := [(0, _), (2, _), (3, _), (9, _), (10, _), (18, _)]) ⟨rfl, rfl, rfl, rfl, rfl, rfl, trivial⟩ ?_
    refine NX.then ?_
    refine Tr.cond (.t rfl) (fun hb => ?_) (fun hb => ?_)
    · have hr := cond_t hb hr
      refine Tr.skip' ?_
      refine NX.then ?_
      refine Tr.seq ?_
      refine Tr.block ?_
      refine Tr.seq ?_
      refine Tr.seq ?_
      obtain ⟨y16, hy17, hr⟩ := bind_some hr
      obtain ⟨ha18, hr⟩ := guard_some hr
      obtain ⟨ha19, hr⟩ := guard_some hr
      refine Tr.region_f (fun _ => false) ?_
      refine W.q rfl rfl rfl rfl (by decide) (Yd.mv rfl (.t rfl)) ?_
      refine W.q rfl rfl rfl rfl (by decide) (Yd.mv rfl (.t rfl)) ?_
      refine W.q rfl rfl rfl rfl (by decide) (Yd.idxT (pos := 0) rfl hy17 rfl Try.underlying84 SZ3 (.t rfl) (.t rfl)) ?_
      refine W.q rfl rfl rfl rfl (by decide) (Yd.ldT (enc := encI) (n := 1) (pos := 0) (fun _ => rfl) rfl hy17 rfl rfl ON3 (.t rfl)) ?_
      refine W.q rfl rfl rfl rfl (by decide) (Yd.mv rfl (.t rfl)) ?_
      refine W.q rfl rfl rfl rfl (by decide) (Yd.neq rfl (.t rfl) (.t rfl)) ?_
      refine W.q rfl rfl rfl rfl (by decide) (Yd.mv rfl (.t rfl)) ?_
      refine W.g rfl rfl rfl rfl rfl (.t rfl _) rfl (by decide) (fun hG => Yd.mv rfl (.t rfl)) ?_
      refine W.g rfl rfl rfl rfl rfl (.t rfl _) rfl (by decide) (fun hG => Yd.mv rfl (.t rfl)) ?_
      refine W.g rfl rfl rfl rfl rfl (.t rfl _) rfl (by decide) (fun hG => Yd.mv rfl (.t rfl)) ?_
      refine W.g rfl rfl rfl rfl rfl (.t rfl _) rfl (by decide) (fun hG => Yd.mv rfl (.t rfl)) ?_
      refine W.g rfl rfl rfl rfl rfl (.t rfl _) rfl (by decide) (fun hG => Yd.idxT (pos := 0) rfl hy17 rfl Try.underlying84 SZ3 (.g rfl hG) (.g rfl hG)) ?_
      refine W.g rfl rfl rfl rfl rfl (.t rfl _) rfl (by decide) (fun hG => Yd.ldT (enc := encI) (n := 1) (pos := 0) (fun _ => rfl) rfl hy17 rfl rfl ON3 (.g rfl hG)) ?_
      refine W.g rfl rfl rfl rfl rfl (.t rfl _) rfl (by decide) (fun hG => Yd.mv rfl (.t rfl)) ?_
      refine W.g rfl rfl rfl rfl rfl (.t rfl _) rfl (by decide) (fun hG => Yd.call (v := .int .u32 (((((syllogistref_Over edges_0 y16 y_2).getD (0#32)))).toNat : Int)) rfl Try.func31 rfl rfl (.cons (.g rfl hG) (.cons (.g rfl hG) (.cons (.g rfl hG) .nil))) (fun x' hx w hw => syllogistref_Over_ok w0 x'.m x'.l _ _ (hedges_0.mono hx.1) y16 y_2 _ (gd_get (d := (0#32)) ha18 hG) w hw)) ?_
      refine W.g rfl rfl rfl rfl rfl (.t rfl _) rfl (by decide) (fun hG => Yd.call (v := .bool ((((syllogistref_In right_3 ((((syllogistref_Over edges_0 y16 y_2).getD (0#32))))).getD false)))) rfl Try.func19 rfl rfl (.cons (.g rfl hG) (.cons (.g rfl hG) .nil)) (fun x' hx w hw => syllogistref_In_ok w0 x'.m x'.l right_3 ((((syllogistref_Over edges_0 y16 y_2).getD (0#32)))) _ (gd_get (d := false) ha19 hG) w hw)) ?_
      refine W.q rfl rfl rfl rfl (by decide) (Yd.and rfl (.t rfl) .c rfl rfl) ?_
      refine W.end ?_
      refine NX.sub (env' := [(0, _), (2, _), (3, _), (9, _), (10, _), (37, _)]) ⟨rfl, rfl, rfl, rfl, rfl, rfl, trivial⟩ ?_
      refine NX.then ?_
      refine Tr.cond (.t rfl) (fun hb => ?_) (fun hb => ?_)
      · have hr := cond_t hb hr
        refine Tr.seq ?_
        refine Tr.region_f (fun _ => false) ?_
        refine W.q rfl rfl rfl rfl (by decide) (Yd.as rfl .c) ?_
        refine W.end ?_
        refine NX.sub (env' := [(8, _)]) ⟨rfl, trivial⟩ ?_
        refine NX.drop (l' := l) (.cons _ (.refl _)) ?_
        refine NX.then ?_
        refine Tr.ret' (RT.then (RT.block (RT.then (RT.then (RT.block (RT.then ?_))))))
        refine res1 rfl rfl ?_
        intro w hc
        cases hr
        exact ⟨rfl, hc⟩
      · have hr := cond_f hb hr
        refine Tr.skip' ?_
        refine NX.then ?_
        refine Tr.seq ?_
        refine Tr.region_f (fun _ => false) ?_
        refine W.q rfl rfl rfl rfl (by decide) (Yd.mv rfl (.t rfl)) ?_
        refine W.q rfl rfl rfl rfl (by decide) (Yd.lenR hedges_0 rfl Try.underlying43 (.t rfl)) ?_
        refine W.q rfl rfl rfl rfl (by decide) (Yd.mv rfl .c) ?_
        refine W.end ?_
        refine NX.sub (env' := [(0, _), (2, _), (3, _), (9, _), (10, _), (38, _), (39, _), (40, _)]) ⟨rfl, rfl, rfl, rfl, rfl, rfl, rfl, rfl, trivial⟩ ?_
        refine NX.then ?_
        refine Tr.join (S := fun env x => ∃ l26 : List Int, ∃ v27 : Value, env = [(0, uedges_0), (2, .int .i64 y_2), (3, .int .u32 (right_3.toNat : Int)), (9, v27), (10, .int .i64 k_6)] ∧ x = ⟨m, hownT 3 1 encI v27 l26 :: l⟩ ∧ syllogistref_Can_k28 k_6 nx14 l26 = some r) ?_ (fun hk29 => ?_)
        · rintro _ _ ⟨l26, v27, rfl, rfl, hr⟩
          unfold syllogistref_Can_k28 at hr
          try dsimp only at hr
          refine NX.block ?_
          refine NX.then ?_
          refine Tr.region_f (fun _ => false) ?_
          refine W.q rfl rfl rfl rfl (by decide) (Yd.mv rfl (.t rfl)) ?_
          refine W.q rfl rfl rfl rfl (by decide) (Yd.add rfl (.t rfl) .c) ?_
          refine W.q rfl rfl rfl rfl (by decide) (Yd.as rfl (.t rfl)) ?_
          refine W.end ?_
          refine NX.sub (env' := [(0, _), (2, _), (3, _), (9, _), (10, _)]) ⟨rfl, rfl, rfl, rfl, rfl, trivial⟩ ?_
          refine NX.sub (env' := [(0, _), (2, _), (3, _), (9, _), (10, _)]) ⟨rfl, rfl, rfl, rfl, rfl, trivial⟩ ?_
          exact NX.again n15 ((w64 (k_6 + (1 : Int))), l26) (Nat.lt_succ_self _) ⟨_, rfl, rfl, ((hnx14 _).symm.trans hr)⟩
        have hlen30 := (hedges_0).2.1
        refine Tr.block ?_
        refine Tr.sub (env' := [(0, _), (2, _), (3, _), (9, _), (10, _), (38, _), (39, _), (40, _)]) ⟨rfl, rfl, rfl, rfl, rfl, rfl, rfl, rfl, trivial⟩ ?_
        refine Tr.loop (S := fun n (z : Int × (List Int)) env x => match z with | (t_31, l24) => ∃ v25 : Value, env = [(0, uedges_0), (2, .int .i64 y_2), (3, .int .u32 (right_3.toNat : Int)), (9, v25), (10, .int .i64 k_6), (38, uedges_0), (39, .int .i64 ((edges_0.length : Int))), (40, .int .i64 t_31)] ∧ x = ⟨m, hownT 3 1 encI v25 l24 :: l⟩ ∧ n = ((edges_0.length : Int) - t_31).toNat ∧ 0 ≤ t_31 ∧ forK (σ := (List Int)) (fun i s nx_ => syllogistref_Can_b32 edges_0 k_6 i s nx_) (fun s => syllogistref_Can_k28 k_6 nx14 s) n t_31 l24 = some r) _ ((0 : Int), l7) ⟨_, rfl, rfl, rfl, (by omega), hr⟩ ?_
        rintro n34 ⟨t_31, l24⟩ env x ⟨v25, rfl, rfl, hnt_31, h0t_31, hr⟩
        cases n34 with
        | zero =>
          simp only [forK] at hr
          refine Tr.seq ?_
          refine Tr.region_f (fun _ => false) ?_
          refine W.q rfl rfl rfl rfl (by decide) (Yd.lss rfl (.t rfl) (.t rfl)) ?_
          refine W.end ?_
          refine NX.sub (env' := [(0, _), (2, _), (3, _), (9, _), (10, _), (38, _), (39, _), (40, _), (41, _)]) ⟨rfl, rfl, rfl, rfl, rfl, rfl, rfl, rfl, rfl, trivial⟩ ?_
          refine NX.then ?_
          refine Tr.seq ?_
          refine Tr.cond (.t rfl) (fun hb => ?_) (fun hb => ?_)
          · exact absurd (hb.symm.trans (fr_end hnt_31)) (by decide)
          ·
            refine Tr.exit' (EX.then (EX.then (EX.block ?_)))
            refine NX.sub (env' := [(0, _), (2, _), (3, _), (9, _), (10, _)]) ⟨rfl, rfl, rfl, rfl, rfl, trivial⟩ ?_
            exact hk29 _ _ ⟨_, _, rfl, rfl, hr⟩
        | succ n34 =>
          obtain ⟨nx33, hnx33, hr⟩ := forK_succ hr
          try dsimp only at hr
          unfold syllogistref_Can_b32 at hr
          try dsimp only at hr
          have hltt_31 := fr_bnd hnt_31
          refine Tr.seq ?_
          refine Tr.region_f (fun _ => false) ?_
          refine W.q rfl rfl rfl rfl (by decide) (Yd.lss rfl (.t rfl) (.t rfl)) ?_
          refine W.end ?_
          refine NX.sub (env' := [(0, _), (2, _), (3, _), (9, _), (10, _), (38, _), (39, _), (40, _), (41, _)]) ⟨rfl, rfl, rfl, rfl, rfl, rfl, rfl, rfl, rfl, trivial⟩ ?_
          refine NX.then ?_
          refine Tr.seq ?_
          refine Tr.cond (.t rfl) (fun hb => ?_) (fun hb => ?_)
          rotate_left
          · exact absurd (hb.symm.trans (fr_go hnt_31)) (by decide)
          ·
            refine Tr.skip' ?_
            refine NX.then ?_
            refine Tr.seq ?_
            refine Tr.block ?_
            refine Tr.seq ?_
            obtain ⟨y35, hy36, hr⟩ := bind_some hr
            refine Tr.region_f (fun i => Nat.beq i 2 || Nat.beq i 3) ?_
            refine W.q rfl rfl rfl rfl (by decide) (Yd.idxR hedges_0 hy36 rfl Try.underlying43 SZ100 (.t rfl) (.t rfl)) ?_
            refine W.q rfl rfl rfl rfl (by decide) (Yd.ldFs (us := [_, _, _]) hedges_0 (.refl _) hy36 rfl rfl ON100 US100 SZ100 (.t rfl)) ?_
            refine W.e rfl rfl rfl rfl (by decide) (Ef.al rfl ZR100 rfl) ?_
            rintro _ _ ⟨b37, rfl, rfl⟩
            refine ⟨.inl rfl, ?_⟩
            refine W.cast (m' := m) (l' := hcells b37 [_, _, _] 100 :: hownT 3 1 encI v25 _ :: l) rfl rfl ?_
            refine W.s rfl rfl rfl rfl (Ef.stB (pos := 0) (us := [_, _, _]) (cs' := [_, _, _]) rfl rfl (.t rfl) (.t rfl) SZ100 rfl rfl rfl (Nat.le_of_ble_eq_true rfl) rfl) ?_
            rintro _ _ ⟨rfl, rfl⟩
            refine ⟨.inl rfl, ?_⟩
            refine W.cast (m' := m) (l' := hcells b37 [_, _, _] 100 :: hownT 3 1 encI v25 _ :: l) rfl rfl ?_
            refine W.end ?_
            refine NX.sub (env' := [(0, _), (2, _), (3, _), (9, _), (10, _), (38, _), (39, _), (40, _), (12, _)]) ⟨rfl, rfl, rfl, rfl, rfl, rfl, rfl, rfl, rfl, trivial⟩ ?_
            refine NX.then ?_
            refine Tr.seq ?_
            refine Tr.seq ?_
            refine Tr.region_f (fun _ => false) ?_
            refine W.q rfl rfl rfl rfl (by decide) (Yd.fldB rfl Try.underlying100 rfl SZ33 rfl (.t rfl)) ?_
            refine W.q rfl rfl rfl rfl (by decide) (Yd.ldB (pos := 0) rfl rfl rfl ON33 (.t rfl)) ?_
            refine W.q rfl rfl rfl rfl (by decide) (Yd.andU (a := y35.rights) (b := 3#32) rfl (.t rfl) .c) ?_
            refine W.q rfl rfl rfl rfl (by decide) (Yd.eqlU (a := (y35.rights &&& 3#32)) (b := 0#32) rfl (.t rfl) .c) ?_
            refine W.end ?_
            refine NX.sub (env' := [(0, _), (2, _), (3, _), (9, _), (10, _), (38, _), (39, _), (40, _), (12, _), (47, _)]) ⟨rfl, rfl, rfl, rfl, rfl, rfl, rfl, rfl, rfl, rfl, trivial⟩ ?_
            refine NX.then ?_
            refine Tr.cond (.t rfl) (fun hb => ?_) (fun hb => ?_)
            · have hr := cond_t hb hr
              refine Tr.exit' (EX.then (EX.block ?_))
              refine NX.then ?_
              refine Tr.region_f (fun _ => false) ?_
              refine W.q rfl rfl rfl rfl (by decide) (Yd.add rfl (.t rfl) .c) ?_
              refine W.q rfl rfl rfl rfl (by decide) (Yd.mv rfl (.t rfl)) ?_
              refine W.end ?_
              refine NX.sub (env' := [(0, _), (2, _), (3, _), (9, _), (10, _), (38, _), (39, _), (40, _)]) ⟨rfl, rfl, rfl, rfl, rfl, rfl, rfl, rfl, trivial⟩ ?_
              refine NX.drop (l' := hownT 3 1 encI v25 _ :: l) (.cons _ (.cons_cons _ (.refl _))) ?_
              refine NX.sub (env' := [(0, _), (2, _), (3, _), (9, _), (10, _), (38, _), (39, _), (40, _)]) ⟨rfl, rfl, rfl, rfl, rfl, rfl, rfl, rfl, trivial⟩ ?_
              have hw := w64_id (n := t_31 + 1) (by omega) (by omega)
              exact NX.again n34 (t_31 + 1, l24) (Nat.lt_succ_self _) ⟨_, (by rw [hw] <;> rfl), rfl, (fr_dec hnt_31), (by omega), ((hnx33 _).symm.trans hr)⟩
            · have hr := cond_f hb hr
              refine Tr.skip' ?_
              refine NX.then ?_
              refine Tr.seq ?_
              refine Tr.seq ?_
              obtain ⟨y39, hy40, hr⟩ := bind_some hr
              obtain ⟨ha41, hr⟩ := guard_some hr
              refine Tr.region_x (fun _ => false) (fun _ => false) (Ord.of [0, 1, 2, 3, 4, 5, 6, 7, 8, 9, 10, 11, 12, 13]) FM (by kernel_rfl) ?_
              refine W.q rfl rfl rfl rfl (by decide) (Yd.fldB rfl Try.underlying100 rfl SZ3 rfl (.t rfl)) ?_
              refine W.q rfl rfl rfl rfl (by decide) (Yd.ldB (pos := 0) rfl rfl rfl ON3 (.t rfl)) ?_
              refine W.q rfl rfl rfl rfl (by decide) (Yd.mv rfl (.t rfl)) ?_
              refine W.q rfl rfl rfl rfl (by decide) (Yd.mv rfl (.t rfl)) ?_
              refine W.q rfl rfl rfl rfl (by decide) (Yd.idxT (pos := 1) rfl hy40 rfl Try.underlying84 SZ3 (.t rfl) (.t rfl)) ?_
              refine W.q rfl rfl rfl rfl (by decide) (Yd.ldT (enc := encI) (n := 1) (pos := 1) (fun _ => rfl) rfl hy40 rfl rfl ON3 (.t rfl)) ?_
              refine W.q rfl rfl rfl rfl (by decide) (Yd.eql rfl (.t rfl) (.t rfl)) ?_
              refine W.q rfl rfl rfl rfl (by decide) (Yd.mv rfl (.t rfl)) ?_
              refine W.g rfl rfl rfl rfl rfl (.t rfl _) rfl (by decide) (fun hG => Yd.mv rfl (.t rfl)) ?_
              refine W.g rfl rfl rfl rfl rfl (.t rfl _) rfl (by decide) (fun hG => Yd.fldB rfl Try.underlying100 rfl SZ3 rfl (.t rfl)) ?_
              refine W.g rfl rfl rfl rfl rfl (.t rfl _) rfl (by decide) (fun hG => Yd.ldB (pos := 0) rfl rfl rfl ON3 (.g rfl hG)) ?_
              refine W.g rfl rfl rfl rfl rfl (.t rfl _) rfl (by decide) (fun hG => Yd.call (v := .bool ((((syllogistref_Has l24 y35.to).getD false)))) rfl Try.func52 rfl rfl (.cons (.g rfl hG) (.cons (.g rfl hG) .nil)) (by intro x' hx w hw; obtain ⟨p0, hp0⟩ := hx.at (p := 1) rfl; obtain ⟨m2, hm2, hc2, ⟨L2, hl1, hl2⟩, hback⟩ := cX_lend hw hp0 lone_own; have hL1 : RS rI m2 _ _ := RS_of_own hl1 hl2; exact (syllogistref_Has_ok w0 m2 _ _ _ hL1 y35.to _ (gd_get (d := false) ha41 hG) w hc2).mono fun e w' ⟨he, hc'⟩ => ⟨he, (hback m2 _ _ w' (.refl _) hp0).2 hc'⟩)) ?_
              refine W.g rfl rfl rfl rfl rfl (.t rfl _) rfl (by decide) (fun hG => Yd.not rfl (.g rfl hG)) ?_
              refine W.q rfl rfl rfl rfl (by decide) (Yd.and rfl (.t rfl) .c rfl rfl) ?_
              refine W.end ?_
              refine NX.sub (env' := [(0, _), (2, _), (3, _), (9, _), (10, _), (38, _), (39, _), (40, _), (12, _), (61, _)]) ⟨rfl, rfl, rfl, rfl, rfl, rfl, rfl, rfl, rfl, rfl, trivial⟩ ?_
              refine NX.then ?_
              refine Tr.join (S := fun env x => ∃ l42 : List Int, ∃ v43 : Value, env = [(0, uedges_0), (2, .int .i64 y_2), (3, .int .u32 (right_3.toNat : Int)), (9, v43), (10, .int .i64 k_6), (38, uedges_0), (39, .int .i64 ((edges_0.length : Int))), (40, .int .i64 t_31), (12, bp b37 0)] ∧ x = ⟨m, hcells b37 [.int .i64 y35.src, .int .i64 y35.to, .int .u32 (y35.rights.toNat : Int)] 100 :: hownT 3 1 encI v43 l42 :: l⟩ ∧ syllogistref_Can_k44 k_6 nx33 y35 l42 = some r) ?_ (fun hk45 => ?_)
              · rintro _ _ ⟨l42, v43, rfl, rfl, hr⟩
                unfold syllogistref_Can_k44 at hr
                try dsimp only at hr
                refine NX.then ?_
                refine Tr.seq ?_
                obtain ⟨y46, hy47, hr⟩ := bind_some hr
                obtain ⟨ha48, hr⟩ := guard_some hr
                refine Tr.region_x (fun _ => false) (fun _ => false) (Ord.of [0, 1, 2, 3, 4, 5, 6, 7, 8, 9, 10, 11, 12, 13]) FM (by kernel_rfl) ?_
                refine W.q rfl rfl rfl rfl (by decide) (Yd.fldB rfl Try.underlying100 rfl SZ3 rfl (.t rfl)) ?_
                refine W.q rfl rfl rfl rfl (by decide) (Yd.ldB (pos := 0) rfl rfl rfl ON3 (.t rfl)) ?_
                refine W.q rfl rfl rfl rfl (by decide) (Yd.mv rfl (.t rfl)) ?_
                refine W.q rfl rfl rfl rfl (by decide) (Yd.mv rfl (.t rfl)) ?_
                refine W.q rfl rfl rfl rfl (by decide) (Yd.idxT (pos := 1) rfl hy47 rfl Try.underlying84 SZ3 (.t rfl) (.t rfl)) ?_
                refine W.q rfl rfl rfl rfl (by decide) (Yd.ldT (enc := encI) (n := 1) (pos := 1) (fun _ => rfl) rfl hy47 rfl rfl ON3 (.t rfl)) ?_
                refine W.q rfl rfl rfl rfl (by decide) (Yd.eql rfl (.t rfl) (.t rfl)) ?_
                refine W.q rfl rfl rfl rfl (by decide) (Yd.mv rfl (.t rfl)) ?_
                refine W.g rfl rfl rfl rfl rfl (.t rfl _) rfl (by decide) (fun hG => Yd.mv rfl (.t rfl)) ?_
                refine W.g rfl rfl rfl rfl rfl (.t rfl _) rfl (by decide) (fun hG => Yd.fldB rfl Try.underlying100 rfl SZ3 rfl (.t rfl)) ?_
                refine W.g rfl rfl rfl rfl rfl (.t rfl _) rfl (by decide) (fun hG => Yd.ldB (pos := 0) rfl rfl rfl ON3 (.g rfl hG)) ?_
                refine W.g rfl rfl rfl rfl rfl (.t rfl _) rfl (by decide) (fun hG => Yd.call (v := .bool ((((syllogistref_Has l42 y35.src).getD false)))) rfl Try.func52 rfl rfl (.cons (.g rfl hG) (.cons (.g rfl hG) .nil)) (by intro x' hx w hw; obtain ⟨p0, hp0⟩ := hx.at (p := 1) rfl; obtain ⟨m2, hm2, hc2, ⟨L2, hl1, hl2⟩, hback⟩ := cX_lend hw hp0 lone_own; have hL1 : RS rI m2 _ _ := RS_of_own hl1 hl2; exact (syllogistref_Has_ok w0 m2 _ _ _ hL1 y35.src _ (gd_get (d := false) ha48 hG) w hc2).mono fun e w' ⟨he, hc'⟩ => ⟨he, (hback m2 _ _ w' (.refl _) hp0).2 hc'⟩)) ?_
                refine W.g rfl rfl rfl rfl rfl (.t rfl _) rfl (by decide) (fun hG => Yd.not rfl (.g rfl hG)) ?_
                refine W.q rfl rfl rfl rfl (by decide) (Yd.and rfl (.t rfl) .c rfl rfl) ?_
                refine W.end ?_
                refine NX.sub (env' := [(0, _), (2, _), (3, _), (9, _), (10, _), (38, _), (39, _), (40, _), (12, _), (80, _)]) ⟨rfl, rfl, rfl, rfl, rfl, rfl, rfl, rfl, rfl, rfl, trivial⟩ ?_
                refine NX.then ?_
                refine Tr.cond (.t rfl) (fun hb => ?_) (fun hb => ?_)
                · have hr := cond_t hb hr
                  obtain ⟨hq52, hr⟩ := guard_some hr; replace hq52 := of_decide_eq_true hq52
                  refine Tr.region_f (fun i => Nat.beq i 3 || Nat.beq i 4) ?_
                  refine W.q rfl rfl rfl rfl (by decide) (Yd.mv rfl (.t rfl)) ?_
                  refine W.q rfl rfl rfl rfl (by decide) (Yd.fldB rfl Try.underlying100 rfl SZ3 rfl (.t rfl)) ?_
                  refine W.q rfl rfl rfl rfl (by decide) (Yd.ldB (pos := 0) rfl rfl rfl ON3 (.t rfl)) ?_
                  refine W.e rfl rfl rfl rfl (by decide) (Ef.bsT (enc := encI) (vs := [_]) (ys := [y35.src]) (fun _ => rfl) IF3 rfl Try.underlying84 (by decide) rfl (.cons (.t rfl) .nil) rfl rfl (by decide)) ?_
                  rintro v49 _ rfl
                  refine ⟨.inl rfl, ?_⟩
                  refine W.cast (m' := m) (l' := hownT 3 1 encI v49 _ :: hcells b37 [_, _, _] 100 :: hownT 3 1 encI v43 _ :: l) rfl rfl ?_
                  refine W.e rfl rfl rfl rfl (by decide) (Ef.apI (pos := 2) (enc := encI) (xs := l42) (ys := ([y35.src] : List Int)) (fun _ => rfl) IF3 rfl rfl Try.underlying84 rfl (by decide) (.t rfl) (.t rfl) (Src.own (pos := 0) rfl) (fun _ => rfl) (by omega) (by omega)) ?_
                  rintro v51 _ rfl
                  refine ⟨.inl rfl, ?_⟩
                  refine W.cast (m' := m) (l' := hownT 3 1 encI v49 _ :: hcells b37 [_, _, _] 100 :: hownT 3 1 encI v51 _ :: l) rfl rfl ?_
                  refine W.q rfl rfl rfl rfl (by decide) (Yd.as rfl (.t rfl)) ?_
                  refine W.end ?_
                  refine NX.sub (env' := [(0, _), (2, _), (3, _), (9, _), (10, _), (38, _), (39, _), (40, _)]) ⟨rfl, rfl, rfl, rfl, rfl, rfl, rfl, rfl, trivial⟩ ?_
                  refine NX.drop (l' := hownT 3 1 encI v51 _ :: l) (.cons _ (.cons _ (.cons_cons _ (.refl _)))) ?_
                  refine NX.block ?_
                  refine NX.then ?_
                  refine Tr.region_f (fun _ => false) ?_
                  refine W.q rfl rfl rfl rfl (by decide) (Yd.add rfl (.t rfl) .c) ?_
                  refine W.q rfl rfl rfl rfl (by decide) (Yd.mv rfl (.t rfl)) ?_
                  refine W.end ?_
                  refine NX.sub (env' := [(0, _), (2, _), (3, _), (9, _), (10, _), (38, _), (39, _), (40, _)]) ⟨rfl, rfl, rfl, rfl, rfl, rfl, rfl, rfl, trivial⟩ ?_
                  refine NX.sub (env' := [(0, _), (2, _), (3, _), (9, _), (10, _), (38, _), (39, _), (40, _)]) ⟨rfl, rfl, rfl, rfl, rfl, rfl, rfl, rfl, trivial⟩ ?_
                  have hw := w64_id (n := t_31 + 1) (by omega) (by omega)
                  exact NX.again n34 (t_31 + 1, (l42 ++ ([y35.src] : List Int))) (Nat.lt_succ_self _) ⟨_, (by rw [hw] <;> rfl), rfl, (fr_dec hnt_31), (by omega), ((hnx33 _).symm.trans hr)⟩
                · have hr := cond_f hb hr
                  refine Tr.skip' ?_
                  refine NX.block ?_
                  refine NX.then ?_
                  refine Tr.region_f (fun _ => false) ?_
                  refine W.q rfl rfl rfl rfl (by decide) (Yd.add rfl (.t rfl) .c) ?_
                  refine W.q rfl rfl rfl rfl (by decide) (Yd.mv rfl (.t rfl)) ?_
                  refine W.end ?_
                  refine NX.sub (env' := [(0, _), (2, _), (3, _), (9, _), (10, _), (38, _), (39, _), (40, _)]) ⟨rfl, rfl, rfl, rfl, rfl, rfl, rfl, rfl, trivial⟩ ?_
                  refine NX.drop (l' := hownT 3 1 encI v43 _ :: l) (.cons _ (.cons_cons _ (.refl _))) ?_
                  refine NX.sub (env' := [(0, _), (2, _), (3, _), (9, _), (10, _), (38, _), (39, _), (40, _)]) ⟨rfl, rfl, rfl, rfl, rfl, rfl, rfl, rfl, trivial⟩ ?_
                  have hw := w64_id (n := t_31 + 1) (by omega) (by omega)
                  exact NX.again n34 (t_31 + 1, l42) (Nat.lt_succ_self _) ⟨_, (by rw [hw] <;> rfl), rfl, (fr_dec hnt_31), (by omega), ((hnx33 _).symm.trans hr)⟩
              refine Tr.cond (.t rfl) (fun hb => ?_) (fun hb => ?_)
              · have hr := cond_t hb hr
                obtain ⟨hq56, hr⟩ := guard_some hr; replace hq56 := of_decide_eq_true hq56
                refine Tr.region_f (fun i => Nat.beq i 3 || Nat.beq i 4) ?_
                refine W.q rfl rfl rfl rfl (by decide) (Yd.mv rfl (.t rfl)) ?_
                refine W.q rfl rfl rfl rfl (by decide) (Yd.fldB rfl Try.underlying100 rfl SZ3 rfl (.t rfl)) ?_
                refine W.q rfl rfl rfl rfl (by decide) (Yd.ldB (pos := 0) rfl rfl rfl ON3 (.t rfl)) ?_
                refine W.e rfl rfl rfl rfl (by decide) (Ef.bsT (enc := encI) (vs := [_]) (ys := [y35.to]) (fun _ => rfl) IF3 rfl Try.underlying84 (by decide) rfl (.cons (.t rfl) .nil) rfl rfl (by decide)) ?_
                rintro v53 _ rfl
                refine ⟨.inl rfl, ?_⟩
                refine W.cast (m' := m) (l' := hownT 3 1 encI v53 _ :: hcells b37 [_, _, _] 100 :: hownT 3 1 encI v25 _ :: l) rfl rfl ?_
                refine W.e rfl rfl rfl rfl (by decide) (Ef.apI (pos := 2) (enc := encI) (xs := l24) (ys := ([y35.to] : List Int)) (fun _ => rfl) IF3 rfl rfl Try.underlying84 rfl (by decide) (.t rfl) (.t rfl) (Src.own (pos := 0) rfl) (fun _ => rfl) (by omega) (by omega)) ?_
                rintro v55 _ rfl
                refine ⟨.inl rfl, ?_⟩
                refine W.cast (m' := m) (l' := hownT 3 1 encI v53 _ :: hcells b37 [_, _, _] 100 :: hownT 3 1 encI v55 _ :: l) rfl rfl ?_
                refine W.q rfl rfl rfl rfl (by decide) (Yd.as rfl (.t rfl)) ?_
                refine W.end ?_
                refine NX.sub (env' := [(0, _), (2, _), (3, _), (9, _), (10, _), (38, _), (39, _), (40, _), (12, _)]) ⟨rfl, rfl, rfl, rfl, rfl, rfl, rfl, rfl, rfl, trivial⟩ ?_
                refine NX.drop (l' := hcells b37 [_, _, _] 100 :: hownT 3 1 encI v55 _ :: l) (.cons _ (.cons_cons _ (.cons_cons _ (.refl _)))) ?_
                refine NX.sub (env' := [(0, _), (2, _), (3, _), (9, _), (10, _), (38, _), (39, _), (40, _), (12, _)]) ⟨rfl, rfl, rfl, rfl, rfl, rfl, rfl, rfl, rfl, trivial⟩ ?_
                exact hk45 _ _ ⟨_, _, rfl, rfl, hr⟩
              · have hr := cond_f hb hr
                refine Tr.skip' ?_
                refine NX.sub (env' := [(0, _), (2, _), (3, _), (9, _), (10, _), (38, _), (39, _), (40, _), (12, _)]) ⟨rfl, rfl, rfl, rfl, rfl, rfl, rfl, rfl, rfl, trivial⟩ ?_
                exact hk45 _ _ ⟨_, _, rfl, rfl, hr⟩
    · have hr := cond_f hb hr
      refine Tr.exit' (EX.then (EX.then (EX.block ?_)))
      refine NX.sub (env' := []) trivial ?_
      refine NX.drop (l' := l) (.cons _ (.refl _)) ?_
      exact hk12 _ _ ⟨rfl, rfl, hr⟩

def syllogistlaw_GrantCans (fuel : Nat) (n_0 : Int) (edges_1 : List Edge) (a_2 : Int) (b_3 : Int) (right_4 : (BitVec 32)) : Option (Bool) :=
  (grant_Can fuel n_0 edges_1 a_2 b_3 right_4).bind fun r1 =>
  (syllogistlaw_grantCode n_0 edges_1 a_2 b_3 right_4).bind fun r3 =>
  (bif (r3 != (0 : Int)) then
  some (((r1.2 == r3) && (!r1.1)))
  else
  bif (!((r1.2 == (0 : Int)) == true) || (syllogistref_Can fuel edges_1 a_2 b_3 right_4).isSome) then
  some (((r1.2 == (0 : Int)) && (r1.1 == (((syllogistref_Can fuel edges_1 a_2 b_3 right_4).getD false))))) else none)

set_option maxRecDepth 100000 in
set_option maxHeartbeats 4000000 in
theorem syllogistlaw_GrantCans_ok (w0 : World) (m : Snap) (l : List HI) (fuel : Nat) (n_0 : Int) (uedges_1 : Value) (edges_1 : List Edge) (hedges_1 : RS rEdge m uedges_1 edges_1) (a_2 : Int) (b_3 : Int) (right_4 : (BitVec 32)) (r : Bool) (hr : syllogistlaw_GrantCans fuel n_0 edges_1 a_2 b_3 right_4 = some r) (w : World) (hc : cX w0 ⟨m, l⟩ w) :
    Calls Try.prog 7 [.int .i64 n_0, uedges_1, .int .i64 a_2, .int .i64 b_3, .int .u32 (right_4.toNat : Int)].toArray w fun e w' => e = .returned (.bool r) ∧ cX w0 ⟨m, l⟩ w' := by
  unfold syllogistlaw_GrantCans at hr
  refine calls_of_Tr (N := 49) Try.func7 rfl hc rfl (Nat.le_of_ble_eq_true rfl) ?_
  refine Tr.seq ?_
  refine Tr.region_f (fun _ => false) ?_
  refine W.q rfl rfl rfl rfl (by decide) (Yd.as rfl .c) ?_
  refine W.end ?_
  refine NX.sub (env' := [(0, _), (1, _), (2, _), (3, _), (4, _)]) ⟨rfl, rfl, rfl, rfl, rfl, trivial⟩ ?_
  refine NX.then ?_
  refine Tr.seq ?_
  obtain ⟨r1, hr2, hr⟩ := bind_some hr
  refine Tr.region_f (fun _ => false) ?_
  refine W.q rfl rfl rfl rfl (by decide) (Yd.mv rfl (.t rfl)) ?_
  refine W.q rfl rfl rfl rfl (by decide) (Yd.mv rfl (.t rfl)) ?_
  refine W.q rfl rfl rfl rfl (by decide) (Yd.mv rfl (.t rfl)) ?_
  refine W.q rfl rfl rfl rfl (by decide) (Yd.mv rfl (.t rfl)) ?_
  refine W.q rfl rfl rfl rfl (by decide) (Yd.mv rfl (.t rfl)) ?_
  refine W.q rfl rfl rfl rfl (by decide) (Yd.call (v := .tuple #[.bool r1.1, .int .i64 r1.2]) rfl Try.func27 rfl rfl (.cons (.t rfl) (.cons (.t rfl) (.cons (.t rfl) (.cons (.t rfl) (.cons (.t rfl) .nil))))) (fun x' hx w hw => grant_Can_ok w0 x'.m x'.l fuel n_0 _ _ (hedges_1.mono hx.1) a_2 b_3 right_4 _ hr2 w hw)) ?_
  refine W.q rfl rfl rfl rfl (by decide) (Yd.mv rfl (.t rfl)) ?_
  refine W.q rfl rfl rfl rfl (by decide) (Yd.ext rfl (.t rfl) rfl) ?_
  refine W.q rfl rfl rfl rfl (by decide) (Yd.ext rfl (.t rfl) rfl) ?_
  refine W.q rfl rfl rfl rfl (by decide) (Yd.as rfl (.t rfl)) ?_
  refine W.q rfl rfl rfl rfl (by decide) (Yd.as rfl (.t rfl)) ?_
  refine W.end ?_
  refine NX.sub (env' := [(0, _), (1, _), (2, _), (3, _), (4, _), (11, _), (12, _)]) ⟨rfl, rfl, rfl, rfl, rfl, rfl, rfl, trivial⟩ ?_
  refine NX.then ?_
  refine Tr.seq ?_
  obtain ⟨r3, hr4, hr⟩ := bind_some hr
  refine Tr.region_f (fun _ => false) ?_
  refine W.q rfl rfl rfl rfl (by decide) (Yd.mv rfl (.t rfl)) ?_
  refine W.q rfl rfl rfl rfl (by decide) (Yd.mv rfl (.t rfl)) ?_
  refine W.q rfl rfl rfl rfl (by decide) (Yd.mv rfl (.t rfl)) ?_
  refine W.q rfl rfl rfl rfl (by decide) (Yd.mv rfl (.t rfl)) ?_
  refine W.q rfl rfl rfl rfl (by decide) (Yd.mv rfl (.t rfl)) ?_
  refine W.q rfl rfl rfl rfl (by decide) (Yd.call (v := .int .i64 r3) rfl Try.func28 rfl rfl (.cons (.t rfl) (.cons (.t rfl) (.cons (.t rfl) (.cons (.t rfl) (.cons (.t rfl) .nil))))) (fun x' hx w hw => syllogistlaw_grantCode_ok w0 x'.m x'.l n_0 _ _ (hedges_1.mono hx.1) a_2 b_3 right_4 _ hr4 w hw)) ?_
  refine W.q rfl rfl rfl rfl (by decide) (Yd.as rfl (.t rfl)) ?_
  refine W.end ?_
  refine NX.sub (env' := [(1, _), (2, _), (3, _), (4, _), (11, _), (12, _), (13, _)]) ⟨rfl, rfl, rfl, rfl, rfl, rfl, rfl, trivial⟩ ?_
  refine NX.then ?_
  refine Tr.seq ?_
  refine Tr.seq ?_
  refine Tr.region_f (fun _ => false) ?_
  refine W.q rfl rfl rfl rfl (by decide) (Yd.mv rfl (.t rfl)) ?_
  refine W.q rfl rfl rfl rfl (by decide) (Yd.neq rfl (.t rfl) .c) ?_
  refine W.end ?_
  refine NX.sub (env' := [(1, _), (2, _), (3, _), (4, _), (11, _), (12, _), (13, _), (30, _)]) ⟨rfl, rfl, rfl, rfl, rfl, rfl, rfl, rfl, trivial⟩ ?_
  refine NX.then ?_
  refine Tr.cond (.t rfl) (fun hb => ?_) (fun hb => ?_)
  · have hr := cond_t hb hr
    refine Tr.seq ?_
    refine Tr.region_f (fun _ => false) ?_
    refine W.q rfl rfl rfl rfl (by decide) (Yd.mv rfl (.t rfl)) ?_
    refine W.q rfl rfl rfl rfl (by decide) (Yd.mv rfl (.t rfl)) ?_
    refine W.q rfl rfl rfl rfl (by decide) (Yd.eql rfl (.t rfl) (.t rfl)) ?_
    refine W.q rfl rfl rfl rfl (by decide) (Yd.mv rfl (.t rfl)) ?_
    refine W.g rfl rfl rfl rfl rfl (.t rfl _) rfl (by decide) (fun hG => Yd.mv rfl (.t rfl)) ?_
    refine W.g rfl rfl rfl rfl rfl (.t rfl _) rfl (by decide) (fun hG => Yd.not rfl (.g rfl hG)) ?_
    refine W.q rfl rfl rfl rfl (by decide) (Yd.and rfl (.t rfl) .c rfl rfl) ?_
    refine W.q rfl rfl rfl rfl (by decide) (Yd.as rfl (.t rfl)) ?_
    refine W.end ?_
    refine NX.sub (env' := [(10, _)]) ⟨rfl, trivial⟩ ?_
    refine NX.then ?_
    refine Tr.ret' (RT.then ?_)
    refine res1 rfl rfl ?_
    intro w hc
    cases hr
    exact ⟨rfl, hc⟩
  · have hr := cond_f hb hr
    refine Tr.skip' ?_
    refine NX.then ?_
    refine Tr.seq ?_
    obtain ⟨ha5, hr⟩ := guard_some hr
    refine Tr.region_f (fun _ => false) ?_
    refine W.q rfl rfl rfl rfl (by decide) (Yd.mv rfl (.t rfl)) ?_
    refine W.q rfl rfl rfl rfl (by decide) (Yd.eql rfl (.t rfl) .c) ?_
    refine W.q rfl rfl rfl rfl (by decide) (Yd.mv rfl (.t rfl)) ?_
    refine W.g rfl rfl rfl rfl rfl (.t rfl _) rfl (by decide) (fun hG => Yd.mv rfl (.t rfl)) ?_
    refine W.g rfl rfl rfl rfl rfl (.t rfl _) rfl (by decide) (fun hG => Yd.mv rfl (.t rfl)) ?_
    refine W.g rfl rfl rfl rfl rfl (.t rfl _) rfl (by decide) (fun hG => Yd.mv rfl (.t rfl)) ?_
    refine W.g rfl rfl rfl rfl rfl (.t rfl _) rfl (by decide) (fun hG => Yd.mv rfl (.t rfl)) ?_
    refine W.g rfl rfl rfl rfl rfl (.t rfl _) rfl (by decide) (fun hG => Yd.mv rfl (.t rfl)) ?_
    refine W.g rfl rfl rfl rfl rfl (.t rfl _) rfl (by decide) (fun hG => Yd.call (v := .bool ((((syllogistref_Can fuel edges_1 a_2 b_3 right_4).getD false)))) rfl Try.func29 rfl rfl (.cons (.g rfl hG) (.cons (.g rfl hG) (.cons (.g rfl hG) (.cons (.g rfl hG) .nil)))) (fun x' hx w hw => syllogistref_Can_ok w0 x'.m x'.l fuel _ _ (hedges_1.mono hx.1) a_2 b_3 right_4 _ (gd_get (d := false) ha5 hG) w hw)) ?_
    refine W.g rfl rfl rfl rfl rfl (.t rfl _) rfl (by decide) (fun hG => Yd.eqlB Try.underlying4 rfl (.g rfl hG) (.g rfl hG)) ?_
    refine W.q rfl rfl rfl rfl (by decide) (Yd.and rfl (.t rfl) .c rfl rfl) ?_
    refine W.q rfl rfl rfl rfl (by decide) (Yd.as rfl (.t rfl)) ?_
    refine W.end ?_
    refine NX.sub (env' := [(10, _)]) ⟨rfl, trivial⟩ ?_
    refine NX.then ?_
    refine Tr.ret' ?_
    refine res1 rfl rfl ?_
    intro w hc
    cases hr
    exact ⟨rfl, hc⟩

def grant_graph_has (g_0 : List (List (BitVec 32))) (i_1 : Int) (j_2 : Int) (right_3 : (BitVec 32)) : Option (Bool) :=
  (geti g_0 i_1).bind fun y1 =>
  (geti y1 j_2).bind fun y6 =>
  some (((y6 &&& right_3) != 0#32))

set_option maxRecDepth 100000 in
set_option maxHeartbeats 4000000 in
theorem grant_graph_has_ok (w0 : World) (m : Snap) (l : List HI) (ug_0 : Value) (g_0 : List (List (BitVec 32))) (hg_0 : RS (Rp.slice rU) m ug_0 g_0) (i_1 : Int) (j_2 : Int) (right_3 : (BitVec 32)) (r : Bool) (hr : grant_graph_has g_0 i_1 j_2 right_3 = some r) (w : World) (hc : cX w0 ⟨m, l⟩ w) :
    Calls Try.prog 77 [ug_0, .int .i64 i_1, .int .i64 j_2, .int .u32 (right_3.toNat : Int)].toArray w fun e w' => e = .returned (.bool r) ∧ cX w0 ⟨m, l⟩ w' := by
  unfold grant_graph_has at hr
  refine calls_of_Tr (N := 19) Try.func77 rfl hc rfl (Nat.le_of_ble_eq_true rfl) ?_
  refine Tr.seq ?_
  refine Tr.region_f (fun _ => false) ?_
  refine W.q rfl rfl rfl rfl (by decide) (Yd.as rfl .c) ?_
  refine W.end ?_
  refine NX.sub (env' := [(0, _), (1, _), (2, _), (3, _)]) ⟨rfl, rfl, rfl, rfl, trivial⟩ ?_
  refine NX.then ?_
  refine Tr.seq ?_
  obtain ⟨y1, hy2, hr⟩ := bind_some hr
  obtain ⟨y6, hy7, hr⟩ := bind_some hr
  refine Tr.region_f (fun _ => false) ?_
  refine W.q rfl rfl rfl rfl (by decide) (Yd.mv rfl (.t rfl)) ?_
  refine W.q rfl rfl rfl rfl (by decide) (Yd.mv rfl (.t rfl)) ?_
  refine W.q rfl rfl rfl rfl (by decide) (Yd.idxR hg_0 hy2 rfl Try.underlying95 SZ38 (.t rfl) (.t rfl)) ?_
  obtain ⟨u3, hu4, hat5⟩ := hg_0.row hy2
  refine W.q rfl rfl rfl rfl (by decide) (Yd.ldRow hat5 (.refl _) rfl ON38 (.t rfl)) ?_
  refine W.q rfl rfl rfl rfl (by decide) (Yd.mv rfl (.t rfl)) ?_
  refine W.q rfl rfl rfl rfl (by decide) (Yd.idxR hu4 hy7 rfl Try.underlying38 SZ33 (.t rfl) (.t rfl)) ?_
  refine W.q rfl rfl rfl rfl (by decide) (Yd.ldF hu4 (.refl _) hy7 rfl rfl ON33 (.t rfl)) ?_
  refine W.q rfl rfl rfl rfl (by decide) (Yd.mv rfl (.t rfl)) ?_
  refine W.q rfl rfl rfl rfl (by decide) (Yd.andU (a := y6) (b := right_3) rfl (.t rfl) (.t rfl)) ?_
  refine W.q rfl rfl rfl rfl (by decide) (Yd.neqU (a := (y6 &&& right_3)) (b := 0#32) rfl (.t rfl) .c) ?_
  refine W.q rfl rfl rfl rfl (by decide) (Yd.as rfl (.t rfl)) ?_
  refine W.end ?_
  refine NX.sub (env' := [(8, _)]) ⟨rfl, trivial⟩ ?_
  refine NX.then ?_
  refine Tr.ret' ?_
  refine res1 rfl rfl ?_
  intro w hc
  cases hr
  exact ⟨rfl, hc⟩

def grant_maker_put (m_0 : T108) (kind_1 : Int) (by_2 : Int) (to_3 : Int) (over_4 : Int) (rights_5 : (BitVec 32)) : Option (T108) :=
  bif decide (m_0.l.length + (([({ kind := kind_1, by_ := by_2, to := to_3, label := ({ level := over_4, parts := rights_5 } : Label), val := (0 : Int) } : Deed)] : List Deed)).length ≤ 2932031007402) then
  some (({ graph := m_0.graph, n := m_0.n, l := (m_0.l ++ ([({ kind := kind_1, by_ := by_2, to := to_3, label := ({ level := over_4, parts := rights_5 } : Label), val := (0 : Int) } : Deed)] : List Deed)) } : T108)) else none

set_option maxRecDepth 100000 in
set_option maxHeartbeats 4000000 in
theorem grant_maker_put_ok (w0 : World) (m : Snap) (l : List HI) (bm_0 : Nat) (m_0 : T108) (um_0_0 : Value) (hm_0_0 : RS (Rp.slice rU) m um_0_0 m_0.graph) (um_0_2 : Value) (kind_1 : Int) (by_2 : Int) (to_3 : Int) (over_4 : Int) (rights_5 : (BitVec 32)) (r : T108) (hr : grant_maker_put m_0 kind_1 by_2 to_3 over_4 rights_5 = some r) (w : World) (hc : cX w0 ⟨m, hcells bm_0 [um_0_0, .int .i64 m_0.n, um_0_2] 108 :: hownT 64 6 Deed.enc um_0_2 m_0.l :: l⟩ w) :
    Calls Try.prog 55 [bp bm_0 0, .int .i64 kind_1, .int .i64 by_2, .int .i64 to_3, .int .i64 over_4, .int .u32 (rights_5.toNat : Int)].toArray w fun e w' => ∃ q0 : Value, e = .returned (.tuple #[]) ∧ cX w0 ⟨m, hcells bm_0 [um_0_0, .int .i64 r.n, q0] 108 :: hownT 64 6 Deed.enc q0 r.l :: l⟩ w' := by
  unfold grant_maker_put at hr
  refine calls_of_Tr (N := 28) Try.func55 rfl hc rfl (Nat.le_of_ble_eq_true rfl) ?_
  obtain ⟨hq4, hr⟩ := guard_some hr; replace hq4 := of_decide_eq_true hq4
  refine Tr.region_f (fun i => Nat.beq i 12 || Nat.beq i 13 || Nat.beq i 16) ?_
  refine W.q rfl rfl rfl rfl (by decide) (Yd.mv rfl (.t rfl)) ?_
  refine W.q rfl rfl rfl rfl (by decide) (Yd.mv rfl (.t rfl)) ?_
  refine W.q rfl rfl rfl rfl (by decide) (Yd.nilc rfl (.t rfl)) ?_
  refine W.q rfl rfl rfl rfl (by decide) (Yd.fldB rfl Try.underlying108 rfl SZ44 rfl (.t rfl)) ?_
  refine W.q rfl rfl rfl rfl (by decide) (Yd.ldB (pos := 0) rfl rfl rfl ON44 (.t rfl)) ?_
  refine W.q rfl rfl rfl rfl (by decide) (Yd.mv rfl (.t rfl)) ?_
  refine W.q rfl rfl rfl rfl (by decide) (Yd.mv rfl (.t rfl)) ?_
  refine W.q rfl rfl rfl rfl (by decide) (Yd.mv rfl (.t rfl)) ?_
  refine W.q rfl rfl rfl rfl (by decide) (Yd.mv rfl (.t rfl)) ?_
  refine W.q rfl rfl rfl rfl (by decide) (Yd.mv rfl (.t rfl)) ?_
  refine W.q rfl rfl rfl rfl (by decide) (Yd.bld (cells := [.int .i64 over_4, .int .u32 (rights_5.toNat : Int)]) rfl ZI62 PL62 (.cons (.t rfl) (.cons (.t rfl) .nil)) rfl) ?_
  refine W.q rfl rfl rfl rfl (by decide) (Yd.bld (cells := [.int .i64 kind_1, .int .i64 by_2, .int .i64 to_3, .int .i64 over_4, .int .u32 (rights_5.toNat : Int), .int .i64 ((0 : Int))]) rfl ZI64 PL64 (.cons (.t rfl) (.cons (.t rfl) (.cons (.t rfl) (.cons (.t rfl) .nil)))) rfl) ?_
  refine W.e rfl rfl rfl rfl (by decide) (Ef.bsT (enc := Deed.enc) (vs := [_]) (ys := [({ kind := kind_1, by_ := by_2, to := to_3, label := ({ level := over_4, parts := rights_5 } : Label), val := (0 : Int) } : Deed)]) (fun _ => rfl) IF64 rfl Try.underlying44 (by decide) rfl (.cons (.t rfl) .nil) rfl rfl (by decide)) ?_
  rintro v1 _ rfl
  refine ⟨.inl rfl, ?_⟩
  refine W.cast (m' := m) (l' := hownT 64 6 Deed.enc v1 _ :: hcells bm_0 [_, _, _] 108 :: hownT 64 6 Deed.enc um_0_2 _ :: l) rfl rfl ?_
  refine W.e rfl rfl rfl rfl (by decide) (Ef.apI (pos := 2) (enc := Deed.enc) (xs := m_0.l) (ys := ([({ kind := kind_1, by_ := by_2, to := to_3, label := ({ level := over_4, parts := rights_5 } : Label), val := (0 : Int) } : Deed)] : List Deed)) (fun _ => rfl) IF64 rfl rfl Try.underlying44 rfl (by decide) (.t rfl) (.t rfl) (Src.own (pos := 0) rfl) (fun _ => rfl) (by omega) (by omega)) ?_
  rintro v3 _ rfl
  refine ⟨.inl rfl, ?_⟩
  refine W.cast (m' := m) (l' := hownT 64 6 Deed.enc v1 _ :: hcells bm_0 [_, _, _] 108 :: hownT 64 6 Deed.enc v3 _ :: l) rfl rfl ?_
  refine W.q rfl rfl rfl rfl (by decide) (Yd.nilc rfl (.t rfl)) ?_
  refine W.q rfl rfl rfl rfl (by decide) (Yd.fldB rfl Try.underlying108 rfl SZ44 rfl (.t rfl)) ?_
  refine W.s rfl rfl rfl rfl (Ef.stBo (pos := 1) (pos2 := 2) (cs' := [_, _, _]) rfl rfl rfl (.t rfl) (.t rfl) SZ44 (Nat.le_of_ble_eq_true rfl) rfl) ?_
  rintro _ _ ⟨rfl, rfl⟩
  refine ⟨.inl rfl, ?_⟩
  refine W.cast (m' := m) (l' := hownT 64 6 Deed.enc v1 _ :: hcells bm_0 [_, _, _] 108 :: hownT 64 6 Deed.enc v3 _ :: l) rfl rfl ?_
  refine W.end ?_
  refine NX.sub (env' := []) trivial ?_
  refine NX.drop (l' := hcells bm_0 [_, _, _] 108 :: hownT 64 6 Deed.enc v3 _ :: l) (.cons _ (.cons_cons _ (.cons_cons _ (.refl _)))) ?_
  refine NX.ret ?_
  refine res0 rfl ?_
  intro w hc
  cases hr
  exact ⟨_, rfl, hc⟩

def grant_maker_fresh (m_0 : T108) (by_1 : Int) : Option (Int × T108) :=
  bif decide (m_0.l.length + (([({ kind := (3 : Int), by_ := by_1, to := (0 : Int), label := ({ level := (0 : Int), parts := (0#32) } : Label), val := (0 : Int) } : Deed)] : List Deed)).length ≤ 2932031007402) then
  some (((w64 ((w64 (m_0.n + (1 : Int))) - (1 : Int))), ({ graph := m_0.graph, n := (w64 (m_0.n + (1 : Int))), l := (m_0.l ++ ([({ kind := (3 : Int), by_ := by_1, to := (0 : Int), label := ({ level := (0 : Int), parts := (0#32) } : Label), val := (0 : Int) } : Deed)] : List Deed)) } : T108))) else none

set_option maxRecDepth 100000 in
set_option maxHeartbeats 4000000 in
theorem grant_maker_fresh_ok (w0 : World) (m : Snap) (l : List HI) (bm_0 : Nat) (m_0 : T108) (um_0_0 : Value) (hm_0_0 : RS (Rp.slice rU) m um_0_0 m_0.graph) (um_0_2 : Value) (by_1 : Int) (r : Int × T108) (hr : grant_maker_fresh m_0 by_1 = some r) (w : World) (hc : cX w0 ⟨m, hcells bm_0 [um_0_0, .int .i64 m_0.n, um_0_2] 108 :: hownT 64 6 Deed.enc um_0_2 m_0.l :: l⟩ w) :
    Calls Try.prog 54 [bp bm_0 0, .int .i64 by_1].toArray w fun e w' => ∃ q0 : Value, e = .returned (.int .i64 r.1) ∧ cX w0 ⟨m, hcells bm_0 [um_0_0, .int .i64 r.2.n, q0] 108 :: hownT 64 6 Deed.enc q0 r.2.l :: l⟩ w' := by
  unfold grant_maker_fresh at hr
  refine calls_of_Tr (N := 28) Try.func54 rfl hc rfl (Nat.le_of_ble_eq_true rfl) ?_
  refine Tr.seq ?_
  refine Tr.region_f (fun _ => false) ?_
  refine W.q rfl rfl rfl rfl (by decide) (Yd.as rfl .c) ?_
  refine W.end ?_
  refine NX.sub (env' := [(0, _), (1, _)]) ⟨rfl, rfl, trivial⟩ ?_
  refine NX.then ?_
  refine Tr.seq ?_
  obtain ⟨hq4, hr⟩ := guard_some hr; replace hq4 := of_decide_eq_true hq4
  refine Tr.region_f (fun i => Nat.beq i 7 || Nat.beq i 8 || Nat.beq i 11) ?_
  refine W.q rfl rfl rfl rfl (by decide) (Yd.mv rfl (.t rfl)) ?_
  refine W.q rfl rfl rfl rfl (by decide) (Yd.mv rfl (.t rfl)) ?_
  refine W.q rfl rfl rfl rfl (by decide) (Yd.nilc rfl (.t rfl)) ?_
  refine W.q rfl rfl rfl rfl (by decide) (Yd.fldB rfl Try.underlying108 rfl SZ44 rfl (.t rfl)) ?_
  refine W.q rfl rfl rfl rfl (by decide) (Yd.ldB (pos := 0) rfl rfl rfl ON44 (.t rfl)) ?_
  refine W.q rfl rfl rfl rfl (by decide) (Yd.mv rfl (.t rfl)) ?_
  refine W.q rfl rfl rfl rfl (by decide) (Yd.bld (cells := [.int .i64 ((3 : Int)), .int .i64 by_1, .int .i64 ((0 : Int)), .int .i64 ((0 : Int)), .int .u32 (((0#32)).toNat : Int), .int .i64 ((0 : Int))]) rfl ZI64 PL64 (.cons .c (.cons (.t rfl) .nil)) rfl) ?_
  refine W.e rfl rfl rfl rfl (by decide) (Ef.bsT (enc := Deed.enc) (vs := [_]) (ys := [({ kind := (3 : Int), by_ := by_1, to := (0 : Int), label := ({ level := (0 : Int), parts := (0#32) } : Label), val := (0 : Int) } : Deed)]) (fun _ => rfl) IF64 rfl Try.underlying44 (by decide) rfl (.cons (.t rfl) .nil) rfl rfl (by decide)) ?_
  rintro v1 _ rfl
  refine ⟨.inl rfl, ?_⟩
  refine W.cast (m' := m) (l' := hownT 64 6 Deed.enc v1 _ :: hcells bm_0 [_, _, _] 108 :: hownT 64 6 Deed.enc um_0_2 _ :: l) rfl rfl ?_
  refine W.e rfl rfl rfl rfl (by decide) (Ef.apI (pos := 2) (enc := Deed.enc) (xs := m_0.l) (ys := ([({ kind := (3 : Int), by_ := by_1, to := (0 : Int), label := ({ level := (0 : Int), parts := (0#32) } : Label), val := (0 : Int) } : Deed)] : List Deed)) (fun _ => rfl) IF64 rfl rfl Try.underlying44 rfl (by decide) (.t rfl) (.t rfl) (Src.own (pos := 0) rfl) (fun _ => rfl) (by omega) (by omega)) ?_
  rintro v3 _ rfl
  refine ⟨.inl rfl, ?_⟩
  refine W.cast (m' := m) (l' := hownT 64 6 Deed.enc v1 _ :: hcells bm_0 [_, _, _] 108 :: hownT 64 6 Deed.enc v3 _ :: l) rfl rfl ?_
  refine W.q rfl rfl rfl rfl (by decide) (Yd.nilc rfl (.t rfl)) ?_
  refine W.q rfl rfl rfl rfl (by decide) (Yd.fldB rfl Try.underlying108 rfl SZ44 rfl (.t rfl)) ?_
  refine W.s rfl rfl rfl rfl (Ef.stBo (pos := 1) (pos2 := 2) (cs' := [_, _, _]) rfl rfl rfl (.t rfl) (.t rfl) SZ44 (Nat.le_of_ble_eq_true rfl) rfl) ?_
  rintro _ _ ⟨rfl, rfl⟩
  refine ⟨.inl rfl, ?_⟩
  refine W.cast (m' := m) (l' := hownT 64 6 Deed.enc v1 _ :: hcells bm_0 [_, _, _] 108 :: hownT 64 6 Deed.enc v3 _ :: l) rfl rfl ?_
  refine W.end ?_
  refine NX.sub (env' := [(0, _)]) ⟨rfl, trivial⟩ ?_
  refine NX.drop (l' := hcells bm_0 [_, _, _] 108 :: hownT 64 6 Deed.enc v3 _ :: l) (.cons _ (.cons_cons _ (.cons_cons _ (.refl _)))) ?_
  refine NX.then ?_
  refine Tr.seq ?_
  refine Tr.region_f (fun i => Nat.beq i 7) ?_
  refine W.q rfl rfl rfl rfl (by decide) (Yd.mv rfl (.t rfl)) ?_
  refine W.q rfl rfl rfl rfl (by decide) (Yd.nilc rfl (.t rfl)) ?_
  refine W.q rfl rfl rfl rfl (by decide) (Yd.fldB rfl Try.underlying108 rfl SZ3 rfl (.t rfl)) ?_
  refine W.q rfl rfl rfl rfl (by decide) (Yd.ldB (pos := 0) rfl rfl rfl ON3 (.t rfl)) ?_
  refine W.q rfl rfl rfl rfl (by decide) (Yd.add rfl (.t rfl) .c) ?_
  refine W.q rfl rfl rfl rfl (by decide) (Yd.nilc rfl (.t rfl)) ?_
  refine W.q rfl rfl rfl rfl (by decide) (Yd.fldB rfl Try.underlying108 rfl SZ3 rfl (.t rfl)) ?_
  refine W.s rfl rfl rfl rfl (Ef.stB (pos := 0) (us := [_]) (cs' := [_, _, _]) rfl rfl (.t rfl) (.t rfl) SZ3 rfl rfl rfl (Nat.le_of_ble_eq_true rfl) rfl) ?_
  rintro _ _ ⟨rfl, rfl⟩
  refine ⟨.inl rfl, ?_⟩
  refine W.cast (m' := m) (l' := hcells bm_0 [_, _, _] 108 :: hownT 64 6 Deed.enc v3 _ :: l) rfl rfl ?_
  refine W.end ?_
  refine NX.sub (env' := [(0, _)]) ⟨rfl, trivial⟩ ?_
  refine NX.then ?_
  refine Tr.seq ?_
  refine Tr.region_f (fun _ => false) ?_
  refine W.q rfl rfl rfl rfl (by decide) (Yd.mv rfl (.t rfl)) ?_
  refine W.q rfl rfl rfl rfl (by decide) (Yd.nilc rfl (.t rfl)) ?_
  refine W.q rfl rfl rfl rfl (by decide) (Yd.fldB rfl Try.underlying108 rfl SZ3 rfl (.t rfl)) ?_
  refine W.q rfl rfl rfl rfl (by decide) (Yd.ldB (pos := 0) rfl rfl rfl ON3 (.t rfl)) ?_
  refine W.q rfl rfl rfl rfl (by decide) (Yd.sub rfl (.t rfl) .c) ?_
  refine W.q rfl rfl rfl rfl (by decide) (Yd.as rfl (.t rfl)) ?_
  refine W.end ?_
  refine NX.sub (env' := [(4, _)]) ⟨rfl, trivial⟩ ?_
  refine NX.then ?_
  refine Tr.ret' ?_
  refine res1 rfl rfl ?_
  intro w hc
  cases hr
  exact ⟨_, rfl, hc⟩

def grant_maker_hop_k19 (m_0 : T108) (a_1 : Int) (b_2 : Int) (over_3 : Int) (right_4 : (BitVec 32)) (r11 : Int × T108) (c16 : Int) (l17 : List Deed) : Option (T108) :=
  (grant_maker_put (({ graph := m_0.graph, n := c16, l := l17 } : T108)) ((2 : Int)) a_1 r11.1 over_3 right_4).bind fun r21 =>
  (grant_maker_put (({ graph := m_0.graph, n := r21.n, l := r21.l } : T108)) ((1 : Int)) b_2 r11.1 over_3 right_4).bind fun r24 =>
  some (({ graph := m_0.graph, n := r24.n, l := r24.l } : T108))

def grant_maker_hop (m_0 : T108) (a_1 : Int) (b_2 : Int) (over_3 : Int) (right_4 : (BitVec 32)) : Option (T108) :=
  (grant_graph_has m_0.graph b_2 a_1 (1#32)).bind fun r1 =>
  (bif r1 then
  (grant_maker_put (({ graph := m_0.graph, n := m_0.n, l := m_0.l } : T108)) ((1 : Int)) b_2 a_1 over_3 right_4).bind fun r3 =>
  some (({ graph := m_0.graph, n := r3.n, l := r3.l } : T108))
  else
  (grant_graph_has m_0.graph a_1 b_2 (2#32)).bind fun r6 =>
  (bif r6 then
  (grant_maker_put (({ graph := m_0.graph, n := m_0.n, l := m_0.l } : T108)) ((2 : Int)) a_1 b_2 over_3 right_4).bind fun r8 =>
  some (({ graph := m_0.graph, n := r8.n, l := r8.l } : T108))
  else
  (grant_maker_fresh (({ graph := m_0.graph, n := m_0.n, l := m_0.l } : T108)) b_2).bind fun r11 =>
  (grant_graph_has m_0.graph b_2 a_1 (2#32)).bind fun r14 =>
  (bif r14 then
  (grant_maker_put (({ graph := m_0.graph, n := r11.2.n, l := r11.2.l } : T108)) ((2 : Int)) b_2 a_1 r11.1 (2#32)).bind fun r27 =>
  grant_maker_hop_k19 m_0 a_1 b_2 over_3 right_4 r11 r27.n r27.l
  else
  (grant_maker_put (({ graph := m_0.graph, n := r11.2.n, l := r11.2.l } : T108)) ((1 : Int)) a_1 b_2 r11.1 (2#32)).bind fun r30 =>
  grant_maker_hop_k19 m_0 a_1 b_2 over_3 right_4 r11 r30.n r30.l)))

set_option maxRecDepth 100000 in
set_option maxHeartbeats 4000000 in
theorem grant_maker_hop_ok (w0 : World) (m : Snap) (l : List HI) (bm_0 : Nat) (m_0 : T108) (um_0_0 : Value) (hm_0_0 : RS (Rp.slice rU) m um_0_0 m_0.graph) (um_0_2 : Value) (a_1 : Int) (b_2 : Int) (over_3 : Int) (right_4 : (BitVec 32)) (r : T108) (hr : grant_maker_hop m_0 a_1 b_2 over_3 right_4 = some r) (w : World) (hc : cX w0 ⟨m, hcells bm_0 [um_0_0, .int .i64 m_0.n, um_0_2] 108 :: hownT 64 6 Deed.enc um_0_2 m_0.l :: l⟩ w) :
    Calls Try.prog 53 [bp bm_0 0, .int .i64 a_1, .int .i64 b_2, .int .i64 over_3, .int .u32 (right_4.toNat : Int)].toArray w fun e w' => ∃ q0 : Value, e = .returned (.tuple #[]) ∧ cX w0 ⟨m, hcells bm_0 [um_0_0, .int .i64 r.n, q0] 108 :: hownT 64 6 Deed.enc q0 r.l :: l⟩ w' := by
  unfold grant_maker_hop at hr
  refine calls_of_Tr (N := 71) Try.func53 rfl hc rfl (Nat.le_of_ble_eq_true rfl) ?_
  refine Tr.seq ?_
  refine Tr.block ?_
  refine Tr.seq ?_
  obtain ⟨r1, hr2, hr⟩ := bind_some hr
  refine Tr.region_f (fun _ => false) ?_
  refine W.q rfl rfl rfl rfl (by decide) (Yd.mv rfl (.t rfl)) ?_
  refine W.q rfl rfl rfl rfl (by decide) (Yd.nilc rfl (.t rfl)) ?_
  refine W.q rfl rfl rfl rfl (by decide) (Yd.fldB rfl Try.underlying108 rfl SZ95 rfl (.t rfl)) ?_
  refine W.q rfl rfl rfl rfl (by decide) (Yd.ldB (pos := 0) rfl rfl rfl ON95 (.t rfl)) ?_
  refine W.q rfl rfl rfl rfl (by decide) (Yd.mv rfl (.t rfl)) ?_
  refine W.q rfl rfl rfl rfl (by decide) (Yd.mv rfl (.t rfl)) ?_
  refine W.q rfl rfl rfl rfl (by decide) (Yd.call (v := .bool r1) rfl Try.func77 rfl rfl (.cons (.t rfl) (.cons (.t rfl) (.cons (.t rfl) (.cons .c .nil)))) (fun x' hx w hw => grant_graph_has_ok w0 x'.m x'.l _ _ (hm_0_0.mono hx.1) b_2 a_1 (1#32) _ hr2 w hw)) ?_
  refine W.q rfl rfl rfl rfl (by decide) (Yd.as rfl (.t rfl)) ?_
  refine W.end ?_
  refine NX.sub (env' := [(0, _), (1, _), (2, _), (3, _), (4, _), (11, _)]) ⟨rfl, rfl, rfl, rfl, rfl, rfl, trivial⟩ ?_
  refine NX.then ?_
  refine Tr.cond (.t rfl) (fun hb => ?_) (fun hb => ?_)
  · have hr := cond_t hb hr
    refine Tr.seq ?_
    obtain ⟨r3, hr4, hr⟩ := bind_some hr
    refine Tr.region_f (fun i => Nat.beq i 5) ?_
    refine W.q rfl rfl rfl rfl (by decide) (Yd.mv rfl (.t rfl)) ?_
    refine W.q rfl rfl rfl rfl (by decide) (Yd.mv rfl (.t rfl)) ?_
    refine W.q rfl rfl rfl rfl (by decide) (Yd.mv rfl (.t rfl)) ?_
    refine W.q rfl rfl rfl rfl (by decide) (Yd.mv rfl (.t rfl)) ?_
    refine W.q rfl rfl rfl rfl (by decide) (Yd.mv rfl (.t rfl)) ?_
    refine W.e rfl rfl rfl rfl (by decide) (Ef.call (R := fun z x' => ∃ v5 : Value, z = .tuple #[] ∧ x' = ⟨m, hcells bm_0 [um_0_0, .int .i64 r3.n, v5] 108 :: hownT 64 6 Deed.enc v5 r3.l :: l⟩) rfl Try.func55 rfl rfl (.cons (.t rfl) (.cons .c (.cons (.t rfl) (.cons (.t rfl) (.cons (.t rfl) (.cons (.t rfl) .nil)))))) (by intro w hw; replace hw := cX_front (p := 1) hw rfl; replace hw := cX_front (p := 1) hw rfl; exact (grant_maker_put_ok w0 _ _ _ (({ graph := m_0.graph, n := m_0.n, l := m_0.l } : T108)) _ hm_0_0 _ ((1 : Int)) b_2 a_1 over_3 right_4 _ hr4 w hw).mono fun e w' ⟨v5, he, hc'⟩ => ⟨_, _, he, ⟨v5, rfl, rfl⟩, hc'⟩)) ?_
    rintro _ _ ⟨v5, rfl, rfl⟩
    refine ⟨.inl rfl, ?_⟩
    refine W.cast (m' := m) (l' := hcells bm_0 [_, _, _] 108 :: hownT 64 6 Deed.enc v5 _ :: l) rfl rfl ?_
    refine W.end ?_
    refine NX.sub (env' := []) trivial ?_
    refine NX.then ?_
    refine Tr.ret' (RT.block (RT.then ?_))
    refine res0 rfl ?_
    intro w hc
    cases hr
    exact ⟨_, rfl, hc⟩
  · have hr := cond_f hb hr
    refine Tr.seq ?_
    obtain ⟨r6, hr7, hr⟩ := bind_some hr
    refine Tr.region_f (fun _ => false) ?_
    refine W.q rfl rfl rfl rfl (by decide) (Yd.mv rfl (.t rfl)) ?_
    refine W.q rfl rfl rfl rfl (by decide) (Yd.nilc rfl (.t rfl)) ?_
    refine W.q rfl rfl rfl rfl (by decide) (Yd.fldB rfl Try.underlying108 rfl SZ95 rfl (.t rfl)) ?_
    refine W.q rfl rfl rfl rfl (by decide) (Yd.ldB (pos := 0) rfl rfl rfl ON95 (.t rfl)) ?_
    refine W.q rfl rfl rfl rfl (by decide) (Yd.mv rfl (.t rfl)) ?_
    refine W.q rfl rfl rfl rfl (by decide) (Yd.mv rfl (.t rfl)) ?_
    refine W.q rfl rfl rfl rfl (by decide) (Yd.call (v := .bool r6) rfl Try.func77 rfl rfl (.cons (.t rfl) (.cons (.t rfl) (.cons (.t rfl) (.cons .c .nil)))) (fun x' hx w hw => grant_graph_has_ok w0 x'.m x'.l _ _ (hm_0_0.mono hx.1) a_1 b_2 (2#32) _ hr7 w hw)) ?_
    refine W.q rfl rfl rfl rfl (by decide) (Yd.as rfl (.t rfl)) ?_
    refine W.end ?_
    refine NX.sub (env' := [(0, _), (1, _), (2, _), (3, _), (4, _), (25, _)]) ⟨rfl, rfl, rfl, rfl, rfl, rfl, trivial⟩ ?_
    refine NX.then ?_
    refine Tr.cond (.t rfl) (fun hb => ?_) (fun hb => ?_)
    · have hr := cond_t hb hr
      refine Tr.seq ?_
      obtain ⟨r8, hr9, hr⟩ := bind_some hr
      refine Tr.region_f (fun i => Nat.beq i 5) ?_
      refine W.q rfl rfl rfl rfl (by decide) (Yd.mv rfl (.t rfl)) ?_
      refine W.q rfl rfl rfl rfl (by decide) (Yd.mv rfl (.t rfl)) ?_
      refine W.q rfl rfl rfl rfl (by decide) (Yd.mv rfl (.t rfl)) ?_
      refine W.q rfl rfl rfl rfl (by decide) (Yd.mv rfl (.t rfl)) ?_
      refine W.q rfl rfl rfl rfl (by decide) (Yd.mv rfl (.t rfl)) ?_
      refine W.e rfl rfl rfl rfl (by decide) (Ef.call (R := fun z x' => ∃ v10 : Value, z = .tuple #[] ∧ x' = ⟨m, hcells bm_0 [um_0_0, .int .i64 r8.n, v10] 108 :: hownT 64 6 Deed.enc v10 r8.l :: l⟩) rfl Try.func55 rfl rfl (.cons (.t rfl) (.cons .c (.cons (.t rfl) (.cons (.t rfl) (.cons (.t rfl) (.cons (.t rfl) .nil)))))) (by intro w hw; replace hw := cX_front (p := 1) hw rfl; replace hw := cX_front (p := 1) hw rfl; exact (grant_maker_put_ok w0 _ _ _ (({ graph := m_0.graph, n := m_0.n, l := m_0.l } : T108)) _ hm_0_0 _ ((2 : Int)) a_1 b_2 over_3 right_4 _ hr9 w hw).mono fun e w' ⟨v10, he, hc'⟩ => ⟨_, _, he, ⟨v10, rfl, rfl⟩, hc'⟩)) ?_
      rintro _ _ ⟨v10, rfl, rfl⟩
      refine ⟨.inl rfl, ?_⟩
      refine W.cast (m' := m) (l' := hcells bm_0 [_, _, _] 108 :: hownT 64 6 Deed.enc v10 _ :: l) rfl rfl ?_
      refine W.end ?_
      refine NX.sub (env' := []) trivial ?_
      refine NX.then ?_
      refine Tr.ret' (RT.block (RT.then ?_))
      refine res0 rfl ?_
      intro w hc
      cases hr
      exact ⟨_, rfl, hc⟩
    · have hr := cond_f hb hr
      refine Tr.skip' ?_
      refine NX.block ?_
      refine NX.then ?_
      refine Tr.seq ?_
      obtain ⟨r11, hr12, hr⟩ := bind_some hr
      refine Tr.region_f (fun i => Nat.beq i 2) ?_
      refine W.q rfl rfl rfl rfl (by decide) (Yd.mv rfl (.t rfl)) ?_
      refine W.q rfl rfl rfl rfl (by decide) (Yd.mv rfl (.t rfl)) ?_
      refine W.e rfl rfl rfl rfl (by decide) (Ef.call (R := fun z x' => ∃ v13 : Value, z = .int .i64 r11.1 ∧ x' = ⟨m, hcells bm_0 [um_0_0, .int .i64 r11.2.n, v13] 108 :: hownT 64 6 Deed.enc v13 r11.2.l :: l⟩) rfl Try.func54 rfl rfl (.cons (.t rfl) (.cons (.t rfl) .nil)) (by intro w hw; replace hw := cX_front (p := 1) hw rfl; replace hw := cX_front (p := 1) hw rfl; exact (grant_maker_fresh_ok w0 _ _ _ (({ graph := m_0.graph, n := m_0.n, l := m_0.l } : T108)) _ hm_0_0 _ b_2 _ hr12 w hw).mono fun e w' ⟨v13, he, hc'⟩ => ⟨_, _, he, ⟨v13, rfl, rfl⟩, hc'⟩)) ?_
      rintro _ _ ⟨v13, rfl, rfl⟩
      refine ⟨.inl rfl, ?_⟩
      refine W.cast (m' := m) (l' := hcells bm_0 [_, _, _] 108 :: hownT 64 6 Deed.enc v13 _ :: l) rfl rfl ?_
      refine W.q rfl rfl rfl rfl (by decide) (Yd.as rfl (.t rfl)) ?_
      refine W.end ?_
      refine NX.sub (env' := [(0, _), (1, _), (2, _), (3, _), (4, _), (10, _)]) ⟨rfl, rfl, rfl, rfl, rfl, rfl, trivial⟩ ?_
      refine NX.then ?_
      refine Tr.seq ?_
      refine Tr.seq ?_
      obtain ⟨r14, hr15, hr⟩ := bind_some hr
      refine Tr.region_f (fun _ => false) ?_
      refine W.q rfl rfl rfl rfl (by decide) (Yd.mv rfl (.t rfl)) ?_
      refine W.q rfl rfl rfl rfl (by decide) (Yd.nilc rfl (.t rfl)) ?_
      refine W.q rfl rfl rfl rfl (by decide) (Yd.fldB rfl Try.underlying108 rfl SZ95 rfl (.t rfl)) ?_
      refine W.q rfl rfl rfl rfl (by decide) (Yd.ldB (pos := 0) rfl rfl rfl ON95 (.t rfl)) ?_
      refine W.q rfl rfl rfl rfl (by decide) (Yd.mv rfl (.t rfl)) ?_
      refine W.q rfl rfl rfl rfl (by decide) (Yd.mv rfl (.t rfl)) ?_
      refine W.q rfl rfl rfl rfl (by decide) (Yd.call (v := .bool r14) rfl Try.func77 rfl rfl (.cons (.t rfl) (.cons (.t rfl) (.cons (.t rfl) (.cons .c .nil)))) (fun x' hx w hw => grant_graph_has_ok w0 x'.m x'.l _ _ (hm_0_0.mono hx.1) b_2 a_1 (2#32) _ hr15 w hw)) ?_
      refine W.end ?_
      refine NX.sub (env' := [(0, _), (1, _), (2, _), (3, _), (4, _), (10, _), (48, _)]) ⟨rfl, rfl, rfl, rfl, rfl, rfl, rfl, trivial⟩ ?_
      refine NX.then ?_
      refine Tr.join (S := fun env x => ∃ c16 : Int, ∃ l17 : List Deed, ∃ v18 : Value, env = [(0, bp bm_0 0), (1, .int .i64 a_1), (2, .int .i64 b_2), (3, .int .i64 over_3), (4, .int .u32 (right_4.toNat : Int)), (10, .int .i64 r11.1)] ∧ x = ⟨m, hcells bm_0 [um_0_0, .int .i64 c16, v18] 108 :: hownT 64 6 Deed.enc v18 l17 :: l⟩ ∧ grant_maker_hop_k19 m_0 a_1 b_2 over_3 right_4 r11 c16 l17 = some r) ?_ (fun hk20 => ?_)
      · rintro _ _ ⟨c16, l17, v18, rfl, rfl, hr⟩
        unfold grant_maker_hop_k19 at hr
        try dsimp only at hr
        refine NX.then ?_
        refine Tr.seq ?_
        obtain ⟨r21, hr22, hr⟩ := bind_some hr
        refine Tr.region_f (fun i => Nat.beq i 5) ?_
        refine W.q rfl rfl rfl rfl (by decide) (Yd.mv rfl (.t rfl)) ?_
        refine W.q rfl rfl rfl rfl (by decide) (Yd.mv rfl (.t rfl)) ?_
        refine W.q rfl rfl rfl rfl (by decide) (Yd.mv rfl (.t rfl)) ?_
        refine W.q rfl rfl rfl rfl (by decide) (Yd.mv rfl (.t rfl)) ?_
        refine W.q rfl rfl rfl rfl (by decide) (Yd.mv rfl (.t rfl)) ?_
        refine W.e rfl rfl rfl rfl (by decide) (Ef.call (R := fun z x' => ∃ v23 : Value, z = .tuple #[] ∧ x' = ⟨m, hcells bm_0 [um_0_0, .int .i64 r21.n, v23] 108 :: hownT 64 6 Deed.enc v23 r21.l :: l⟩) rfl Try.func55 rfl rfl (.cons (.t rfl) (.cons .c (.cons (.t rfl) (.cons (.t rfl) (.cons (.t rfl) (.cons (.t rfl) .nil)))))) (by intro w hw; replace hw := cX_front (p := 1) hw rfl; replace hw := cX_front (p := 1) hw rfl; exact (grant_maker_put_ok w0 _ _ _ (({ graph := m_0.graph, n := c16, l := l17 } : T108)) _ hm_0_0 _ ((2 : Int)) a_1 r11.1 over_3 right_4 _ hr22 w hw).mono fun e w' ⟨v23, he, hc'⟩ => ⟨_, _, he, ⟨v23, rfl, rfl⟩, hc'⟩)) ?_
        rintro _ _ ⟨v23, rfl, rfl⟩
        refine ⟨.inl rfl, ?_⟩
        refine W.cast (m' := m) (l' := hcells bm_0 [_, _, _] 108 :: hownT 64 6 Deed.enc v23 _ :: l) rfl rfl ?_
        refine W.end ?_
        refine NX.sub (env' := [(0, _), (2, _), (3, _), (4, _), (10, _)]) ⟨rfl, rfl, rfl, rfl, rfl, trivial⟩ ?_
        refine NX.then ?_
        obtain ⟨r24, hr25, hr⟩ := bind_some hr
        refine Tr.region_f (fun i => Nat.beq i 5) ?_
        refine W.q rfl rfl rfl rfl (by decide) (Yd.mv rfl (.t rfl)) ?_
        refine W.q rfl rfl rfl rfl (by decide) (Yd.mv rfl (.t rfl)) ?_
        refine W.q rfl rfl rfl rfl (by decide) (Yd.mv rfl (.t rfl)) ?_
        refine W.q rfl rfl rfl rfl (by decide) (Yd.mv rfl (.t rfl)) ?_
        refine W.q rfl rfl rfl rfl (by decide) (Yd.mv rfl (.t rfl)) ?_
        refine W.e rfl rfl rfl rfl (by decide) (Ef.call (R := fun z x' => ∃ v26 : Value, z = .tuple #[] ∧ x' = ⟨m, hcells bm_0 [um_0_0, .int .i64 r24.n, v26] 108 :: hownT 64 6 Deed.enc v26 r24.l :: l⟩) rfl Try.func55 rfl rfl (.cons (.t rfl) (.cons .c (.cons (.t rfl) (.cons (.t rfl) (.cons (.t rfl) (.cons (.t rfl) .nil)))))) (by intro w hw; replace hw := cX_front (p := 1) hw rfl; replace hw := cX_front (p := 1) hw rfl; exact (grant_maker_put_ok w0 _ _ _ (({ graph := m_0.graph, n := r21.n, l := r21.l } : T108)) _ hm_0_0 _ ((1 : Int)) b_2 r11.1 over_3 right_4 _ hr25 w hw).mono fun e w' ⟨v26, he, hc'⟩ => ⟨_, _, he, ⟨v26, rfl, rfl⟩, hc'⟩)) ?_
        rintro _ _ ⟨v26, rfl, rfl⟩
        refine ⟨.inl rfl, ?_⟩
        refine W.cast (m' := m) (l' := hcells bm_0 [_, _, _] 108 :: hownT 64 6 Deed.enc v26 _ :: l) rfl rfl ?_
        refine W.end ?_
        refine NX.sub (env' := []) trivial ?_
        refine NX.ret ?_
        refine res0 rfl ?_
        intro w hc
        cases hr
        exact ⟨_, rfl, hc⟩
      refine Tr.cond (.t rfl) (fun hb => ?_) (fun hb => ?_)
      · have hr := cond_t hb hr
        obtain ⟨r27, hr28, hr⟩ := bind_some hr
        refine Tr.region_f (fun i => Nat.beq i 4) ?_
        refine W.q rfl rfl rfl rfl (by decide) (Yd.mv rfl (.t rfl)) ?_
        refine W.q rfl rfl rfl rfl (by decide) (Yd.mv rfl (.t rfl)) ?_
        refine W.q rfl rfl rfl rfl (by decide) (Yd.mv rfl (.t rfl)) ?_
        refine W.q rfl rfl rfl rfl (by decide) (Yd.mv rfl (.t rfl)) ?_
        refine W.e rfl rfl rfl rfl (by decide) (Ef.call (R := fun z x' => ∃ v29 : Value, z = .tuple #[] ∧ x' = ⟨m, hcells bm_0 [um_0_0, .int .i64 r27.n, v29] 108 :: hownT 64 6 Deed.enc v29 r27.l :: l⟩) rfl Try.func55 rfl rfl (.cons (.t rfl) (.cons .c (.cons (.t rfl) (.cons (.t rfl) (.cons (.t rfl) (.cons .c .nil)))))) (by intro w hw; replace hw := cX_front (p := 1) hw rfl; replace hw := cX_front (p := 1) hw rfl; exact (grant_maker_put_ok w0 _ _ _ (({ graph := m_0.graph, n := r11.2.n, l := r11.2.l } : T108)) _ hm_0_0 _ ((2 : Int)) b_2 a_1 r11.1 (2#32) _ hr28 w hw).mono fun e w' ⟨v29, he, hc'⟩ => ⟨_, _, he, ⟨v29, rfl, rfl⟩, hc'⟩)) ?_
        rintro _ _ ⟨v29, rfl, rfl⟩
        refine ⟨.inl rfl, ?_⟩
        refine W.cast (m' := m) (l' := hcells bm_0 [_, _, _] 108 :: hownT 64 6 Deed.enc v29 _ :: l) rfl rfl ?_
        refine W.end ?_
        refine NX.sub (env' := [(0, _), (1, _), (2, _), (3, _), (4, _), (10, _)]) ⟨rfl, rfl, rfl, rfl, rfl, rfl, trivial⟩ ?_
        refine NX.sub (env' := [(0, _), (1, _), (2, _), (3, _), (4, _), (10, _)]) ⟨rfl, rfl, rfl, rfl, rfl, rfl, trivial⟩ ?_
        exact hk20 _ _ ⟨_, _, _, rfl, rfl, hr⟩
      · have hr := cond_f hb hr
        obtain ⟨r30, hr31, hr⟩ := bind_some hr
        refine Tr.region_f (fun i => Nat.beq i 4) ?_
        refine W.q rfl rfl rfl rfl (by decide) (Yd.mv rfl (.t rfl)) ?_
        refine W.q rfl rfl rfl rfl (by decide) (Yd.mv rfl (.t rfl)) ?_
        refine W.q rfl rfl rfl rfl (by decide) (Yd.mv rfl (.t rfl)) ?_
        refine W.q rfl rfl rfl rfl (by decide) (Yd.mv rfl (.t rfl)) ?_
        refine W.e rfl rfl rfl rfl (by decide) (Ef.call (R := fun z x' => ∃ v32 : Value, z = .tuple #[] ∧ x' = ⟨m, hcells bm_0 [um_0_0, .int .i64 r30.n, v32] 108 :: hownT 64 6 Deed.enc v32 r30.l :: l⟩) rfl Try.func55 rfl rfl (.cons (.t rfl) (.cons .c (.cons (.t rfl) (.cons (.t rfl) (.cons (.t rfl) (.cons .c .nil)))))) (by intro w hw; replace hw := cX_front (p := 1) hw rfl; replace hw := cX_front (p := 1) hw rfl; exact (grant_maker_put_ok w0 _ _ _ (({ graph := m_0.graph, n := r11.2.n, l := r11.2.l } : T108)) _ hm_0_0 _ ((1 : Int)) a_1 b_2 r11.1 (2#32) _ hr31 w hw).mono fun e w' ⟨v32, he, hc'⟩ => ⟨_, _, he, ⟨v32, rfl, rfl⟩, hc'⟩)) ?_
        rintro _ _ ⟨v32, rfl, rfl⟩
        refine ⟨.inl rfl, ?_⟩
        refine W.cast (m' := m) (l' := hcells bm_0 [_, _, _] 108 :: hownT 64 6 Deed.enc v32 _ :: l) rfl rfl ?_
        refine W.end ?_
        refine NX.sub (env' := [(0, _), (1, _), (2, _), (3, _), (4, _), (10, _)]) ⟨rfl, rfl, rfl, rfl, rfl, rfl, trivial⟩ ?_
        refine NX.sub (env' := [(0, _), (1, _), (2, _), (3, _), (4, _), (10, _)]) ⟨rfl, rfl, rfl, rfl, rfl, rfl, trivial⟩ ?_
        exact hk20 _ _ ⟨_, _, _, rfl, rfl, hr⟩
end Go.Proofs.Ytehfjfaanhdbaaa.Sy
