/- Functions of the program as plain functions, and that the translation computes them; the conditions stand in each theorem. Printed by an own program. -/
import Derived.Test.YtjpoedjmoobapaaG2a
import Derived.Test.YtjpoedjmoobapaaProg
namespace Go.Proofs.Ytjpoedjmoobapaa.Sy
open Go
set_option linter.unusedVariables false
def syllogistlaw_ShareDeals_k29 : Option (Bool) :=
  some true

def syllogistlaw_ShareDeals_k49 (r1 : (List (List Int)) × Int) (i_32 : Int) (nx34 : (Unit → Option (Bool))) (l47 : List Int) : Option (Bool) :=
  (geti r1.1 i_32).bind fun y51 =>
  (syllogistref_Ints y51 l47).bind fun r56 =>
  (bif (!r56) then
  some false
  else
  nx34 ())

def syllogistlaw_ShareDeals_k66 (i_32 : Int) (l45 : List Int) (nx61 : ((List Int) → Option (Bool))) (y63 : (BitVec 32)) (part_65 : Int) : Option (Bool) :=
  (syllogistref_Bit y63 i_32).bind fun r68 =>
  (bif r68 then
  bif decide (l45.length + (([(-1 : Int)] : List Int)).length ≤ 17592186044416) then
  nx61 (l45 ++ ([(-1 : Int)] : List Int)) else none
  else
  bif decide (l45.length + (([part_65] : List Int)).length ≤ 17592186044416) then
  nx61 (l45 ++ ([part_65] : List Int)) else none)

def syllogistlaw_ShareDeals_b60 (dice_3 : List (BitVec 8)) (last_24 : BitVec 8) (i_32 : Int) (r36 : (List (BitVec 32))) (t_59 : Int) (l45 : List Int) (nx61 : (List Int) → Option (Bool)) : Option (Bool) :=
  (geti r36 t_59).bind fun y63 =>
  (bif (decide (t_59 < (dice_3.length : Int))) then
  (geti dice_3 t_59).bind fun y78 =>
  syllogistlaw_ShareDeals_k66 i_32 l45 nx61 y63 ((y78.toNat : Int))
  else
  syllogistlaw_ShareDeals_k66 i_32 l45 nx61 y63 ((last_24.toNat : Int)))

def syllogistlaw_ShareDeals_b33 (n_0 : Int) (sets_1 : List (BitVec 32)) (dice_3 : List (BitVec 8)) (r1 : (List (List Int)) × Int) (last_24 : BitVec 8) (i_32 : Int) (nx34 : Unit → Option (Bool)) : Option (Bool) :=
  (syllogistref_MostLost n_0 sets_1).bind fun r36 =>
  forK (σ := (List Int)) (fun i s nx_ => syllogistlaw_ShareDeals_b60 dice_3 last_24 i_32 r36 i s nx_) (fun s => syllogistlaw_ShareDeals_k49 r1 i_32 nx34 s) ((r36.length : Int) - (0 : Int)).toNat (0 : Int) (([] : List Int))

def syllogistlaw_ShareDeals_k25 (n_0 : Int) (sets_1 : List (BitVec 32)) (dice_3 : List (BitVec 8)) (r1 : (List (List Int)) × Int) (last_24 : BitVec 8) : Option (Bool) :=
  bif decide (n_0 ≤ 9223372036854775807) then
  forK (σ := Unit) (fun i s nx_ => syllogistlaw_ShareDeals_b33 n_0 sets_1 dice_3 r1 last_24 i nx_) (fun _ => syllogistlaw_ShareDeals_k29) (n_0 - (0 : Int)).toNat (0 : Int) () else none

def syllogistlaw_ShareDeals_b82 (dice_3 : List (BitVec 8)) (t_81 : Int) (last_22 : BitVec 8) (nx83 : (BitVec 8) → Option (Bool)) : Option (Bool) :=
  (geti dice_3 t_81).bind fun y85 =>
  nx83 (last_22 ^^^ y85)

def syllogistlaw_ShareDeals_k18 (n_0 : Int) (sets_1 : List (BitVec 32)) (secret_2 : (BitVec 8)) (dice_3 : List (BitVec 8)) (r1 : (List (List Int)) × Int) (x_17 : Int) : Option (Bool) :=
  (bif (x_17 != (0 : Int)) then
  some (((r1.2 == x_17) && ((r1.1.length : Int) == (0 : Int))))
  else
  (bif ((r1.2 != (0 : Int)) || ((r1.1.length : Int) != n_0)) then
  some false
  else
  forK (σ := (BitVec 8)) (fun i s nx_ => syllogistlaw_ShareDeals_b82 dice_3 i s nx_) (fun s => syllogistlaw_ShareDeals_k25 n_0 sets_1 dice_3 r1 s) ((dice_3.length : Int) - (0 : Int)).toNat (0 : Int) secret_2))

def syllogistlaw_ShareDeals_k99 : Option (Bool) :=
  some true

def syllogistlaw_ShareDeals_k119 (r1 : (List (List Int)) × Int) (i_102 : Int) (nx104 : (Unit → Option (Bool))) (l117 : List Int) : Option (Bool) :=
  (geti r1.1 i_102).bind fun y121 =>
  (syllogistref_Ints y121 l117).bind fun r126 =>
  (bif (!r126) then
  some false
  else
  nx104 ())

def syllogistlaw_ShareDeals_k136 (i_102 : Int) (l115 : List Int) (nx131 : ((List Int) → Option (Bool))) (y133 : (BitVec 32)) (part_135 : Int) : Option (Bool) :=
  (syllogistref_Bit y133 i_102).bind fun r138 =>
  (bif r138 then
  bif decide (l115.length + (([(-1 : Int)] : List Int)).length ≤ 17592186044416) then
  nx131 (l115 ++ ([(-1 : Int)] : List Int)) else none
  else
  bif decide (l115.length + (([part_135] : List Int)).length ≤ 17592186044416) then
  nx131 (l115 ++ ([part_135] : List Int)) else none)

def syllogistlaw_ShareDeals_b130 (dice_3 : List (BitVec 8)) (last_94 : BitVec 8) (i_102 : Int) (r106 : (List (BitVec 32))) (t_129 : Int) (l115 : List Int) (nx131 : (List Int) → Option (Bool)) : Option (Bool) :=
  (geti r106 t_129).bind fun y133 =>
  (bif (decide (t_129 < (dice_3.length : Int))) then
  (geti dice_3 t_129).bind fun y148 =>
  syllogistlaw_ShareDeals_k136 i_102 l115 nx131 y133 ((y148.toNat : Int))
  else
  syllogistlaw_ShareDeals_k136 i_102 l115 nx131 y133 ((last_94.toNat : Int)))

def syllogistlaw_ShareDeals_b103 (n_0 : Int) (sets_1 : List (BitVec 32)) (dice_3 : List (BitVec 8)) (r1 : (List (List Int)) × Int) (last_94 : BitVec 8) (i_102 : Int) (nx104 : Unit → Option (Bool)) : Option (Bool) :=
  (syllogistref_MostLost n_0 sets_1).bind fun r106 =>
  forK (σ := (List Int)) (fun i s nx_ => syllogistlaw_ShareDeals_b130 dice_3 last_94 i_102 r106 i s nx_) (fun s => syllogistlaw_ShareDeals_k119 r1 i_102 nx104 s) ((r106.length : Int) - (0 : Int)).toNat (0 : Int) (([] : List Int))

def syllogistlaw_ShareDeals_k95 (n_0 : Int) (sets_1 : List (BitVec 32)) (dice_3 : List (BitVec 8)) (r1 : (List (List Int)) × Int) (last_94 : BitVec 8) : Option (Bool) :=
  bif decide (n_0 ≤ 9223372036854775807) then
  forK (σ := Unit) (fun i s nx_ => syllogistlaw_ShareDeals_b103 n_0 sets_1 dice_3 r1 last_94 i nx_) (fun _ => syllogistlaw_ShareDeals_k99) (n_0 - (0 : Int)).toNat (0 : Int) () else none

def syllogistlaw_ShareDeals_b152 (dice_3 : List (BitVec 8)) (t_151 : Int) (last_92 : BitVec 8) (nx153 : (BitVec 8) → Option (Bool)) : Option (Bool) :=
  (geti dice_3 t_151).bind fun y155 =>
  nx153 (last_92 ^^^ y155)

def syllogistlaw_ShareDeals_k88 (n_0 : Int) (sets_1 : List (BitVec 32)) (secret_2 : (BitVec 8)) (dice_3 : List (BitVec 8)) (r1 : (List (List Int)) × Int) (x_87 : Int) : Option (Bool) :=
  (bif (x_87 != (0 : Int)) then
  some (((r1.2 == x_87) && ((r1.1.length : Int) == (0 : Int))))
  else
  (bif ((r1.2 != (0 : Int)) || ((r1.1.length : Int) != n_0)) then
  some false
  else
  forK (σ := (BitVec 8)) (fun i s nx_ => syllogistlaw_ShareDeals_b152 dice_3 i s nx_) (fun s => syllogistlaw_ShareDeals_k95 n_0 sets_1 dice_3 r1 s) ((dice_3.length : Int) - (0 : Int)).toNat (0 : Int) secret_2))

def syllogistlaw_ShareDeals_k10 (n_0 : Int) (sets_1 : List (BitVec 32)) (secret_2 : (BitVec 8)) (dice_3 : List (BitVec 8)) (r1 : (List (List Int)) × Int) (x_9 : Int) : Option (Bool) :=
  (bif ((x_9 == (0 : Int)) == true) then
  (syllogistref_MostLost n_0 sets_1).bind fun r13 =>
  (bif ((x_9 == (0 : Int)) && ((dice_3.length : Int) != (w64 ((r13.length : Int) - (1 : Int))))) then
  syllogistlaw_ShareDeals_k18 n_0 sets_1 secret_2 dice_3 r1 ((3 : Int))
  else
  syllogistlaw_ShareDeals_k18 n_0 sets_1 secret_2 dice_3 r1 x_9)
  else
  (bif ((x_9 == (0 : Int)) && false) then
  syllogistlaw_ShareDeals_k88 n_0 sets_1 secret_2 dice_3 r1 ((3 : Int))
  else
  syllogistlaw_ShareDeals_k88 n_0 sets_1 secret_2 dice_3 r1 x_9))

def syllogistlaw_ShareDeals (fuel : Nat) (n_0 : Int) (sets_1 : List (BitVec 32)) (secret_2 : (BitVec 8)) (dice_3 : List (BitVec 8)) : Option (Bool) :=
  (share_Deal fuel n_0 sets_1 secret_2 dice_3).bind fun r1 =>
  (syllogistref_SetsCheck n_0 sets_1).bind fun r6 =>
  bif (!((r6 == (0 : Int)) == true) || (syllogistref_Deals n_0 sets_1).isSome) then
  (bif ((r6 == (0 : Int)) && (!(((syllogistref_Deals n_0 sets_1).getD false)))) then
  syllogistlaw_ShareDeals_k10 n_0 sets_1 secret_2 dice_3 r1 ((5 : Int))
  else
  syllogistlaw_ShareDeals_k10 n_0 sets_1 secret_2 dice_3 r1 r6) else none

set_option maxRecDepth 100000 in
set_option maxHeartbeats 4000000 in
theorem syllogistlaw_ShareDeals_ok (w0 : World) (m : Snap) (l : List HI) (fuel : Nat) (n_0 : Int) (usets_1 : Value) (sets_1 : List (BitVec 32)) (hsets_1 : RS rU m usets_1 sets_1) (secret_2 : (BitVec 8)) (udice_3 : Value) (dice_3 : List (BitVec 8)) (hdice_3 : RS rY m udice_3 dice_3) (r : Bool) (hr : syllogistlaw_ShareDeals fuel n_0 sets_1 secret_2 dice_3 = some r) (w : World) (hc : cX w0 ⟨m, l⟩ w) :
    Calls Try.prog 5 [.int .i64 n_0, usets_1, .int .u8 (secret_2.toNat : Int), udice_3].toArray w fun e w' => e = .returned (.bool r) ∧ cX w0 ⟨m, l⟩ w' := by
  unfold syllogistlaw_ShareDeals at hr
  refine calls_of_Tr (N := 120) Try.func5 rfl hc rfl (Nat.le_of_ble_eq_true rfl) ?_
  refine Tr.seq ?_
  refine Tr.region_f (fun _ => false) ?_
  refine W.q rfl rfl rfl rfl (by decide) (Yd.as rfl .c) ?_
  refine W.end ?_
  refine NX.sub (env' := [(0, _), (1, _), (2, _), (3, _)]) ⟨rfl, rfl, rfl, rfl, trivial⟩ ?_
  refine NX.then ?_
  refine Tr.seq ?_
  obtain ⟨r1, hr2, hr⟩ := bind_some hr
  refine Tr.region_f (fun i => Nat.beq i 4) ?_
  refine W.q rfl rfl rfl rfl (by decide) (Yd.mv rfl (.t rfl)) ?_
  refine W.q rfl rfl rfl rfl (by decide) (Yd.mv rfl (.t rfl)) ?_
  refine W.q rfl rfl rfl rfl (by decide) (Yd.mv rfl (.t rfl)) ?_
  refine W.q rfl rfl rfl rfl (by decide) (Yd.mv rfl (.t rfl)) ?_
  refine W.e rfl rfl rfl rfl (by decide) (Ef.call (R := fun z x' => ∃ u3 : Value, ∃ m4 : Snap, z = .tuple #[u3, .int .i64 r1.2] ∧ x' = ⟨m4, l⟩ ∧ Sle m m4 ∧ RS (Rp.slice rI) m4 u3 r1.1) rfl Try.func15 rfl rfl (.cons (.t rfl) (.cons (.t rfl) (.cons (.t rfl) (.cons (.t rfl) .nil)))) (fun w hw => (share_Deal_ok w0 _ _ fuel n_0 _ _ hsets_1 secret_2 _ _ hdice_3 _ hr2 w hw).mono fun e w' ⟨u3, m4, he, hm', hu5, hc'⟩ => ⟨_, _, he, ⟨u3, m4, rfl, rfl, hm', hu5⟩, hc'⟩)) ?_
  rintro _ _ ⟨u3, m4, rfl, rfl, hsm4, hu5⟩
  have hsets_1 := hsets_1.mono hsm4
  have hdice_3 := hdice_3.mono hsm4
  refine ⟨.inl rfl, ?_⟩
  refine W.cast (m' := m4) (l' := l) rfl rfl ?_
  refine W.q rfl rfl rfl rfl (by decide) (Yd.mv rfl (.t rfl)) ?_
  refine W.q rfl rfl rfl rfl (by decide) (Yd.ext rfl (.t rfl) rfl) ?_
  refine W.q rfl rfl rfl rfl (by decide) (Yd.ext rfl (.t rfl) rfl) ?_
  refine W.q rfl rfl rfl rfl (by decide) (Yd.as rfl (.t rfl)) ?_
  refine W.q rfl rfl rfl rfl (by decide) (Yd.as rfl (.t rfl)) ?_
  refine W.end ?_
  refine NX.sub (env' := [(0, _), (1, _), (2, _), (3, _), (9, _), (10, _)]) ⟨rfl, rfl, rfl, rfl, rfl, rfl, trivial⟩ ?_
  refine NX.then ?_
  refine Tr.seq ?_
  obtain ⟨r6, hr7, hr⟩ := bind_some hr
  refine Tr.region_f (fun _ => false) ?_
  refine W.q rfl rfl rfl rfl (by decide) (Yd.mv rfl (.t rfl)) ?_
  refine W.q rfl rfl rfl rfl (by decide) (Yd.mv rfl (.t rfl)) ?_
  refine W.q rfl rfl rfl rfl (by decide) (Yd.call (v := .int .i64 r6) rfl Try.func8 rfl rfl (.cons (.t rfl) (.cons (.t rfl) .nil)) (fun x' hx w hw => syllogistref_SetsCheck_ok w0 x'.m x'.l n_0 _ _ (hsets_1.mono hx.1) _ hr7 w hw)) ?_
  refine W.q rfl rfl rfl rfl (by decide) (Yd.as rfl (.t rfl)) ?_
  refine W.end ?_
  refine NX.sub (env' := [(0, _), (1, _), (2, _), (3, _), (9, _), (10, _), (11, _)]) ⟨rfl, rfl, rfl, rfl, rfl, rfl, rfl, trivial⟩ ?_
  refine NX.then ?_
  refine Tr.seq ?_
  refine Tr.seq ?_
  obtain ⟨ha8, hr⟩ := guard_some hr
  refine Tr.region_f (fun _ => false) ?_
  refine W.q rfl rfl rfl rfl (by decide) (Yd.mv rfl (.t rfl)) ?_
  refine W.q rfl rfl rfl rfl (by decide) (Yd.eql rfl (.t rfl) .c) ?_
  refine W.q rfl rfl rfl rfl (by decide) (Yd.mv rfl (.t rfl)) ?_
  refine W.g rfl rfl rfl rfl rfl (.t rfl _) rfl (by decide) (fun hG => Yd.mv rfl (.t rfl)) ?_
  refine W.g rfl rfl rfl rfl rfl (.t rfl _) rfl (by decide) (fun hG => Yd.mv rfl (.t rfl)) ?_
  refine W.g rfl rfl rfl rfl rfl (.t rfl _) rfl (by decide) (fun hG => Yd.call (v := .bool ((((syllogistref_Deals n_0 sets_1).getD false)))) rfl Try.func12 rfl rfl (.cons (.g rfl hG) (.cons (.g rfl hG) .nil)) (fun x' hx w hw => syllogistref_Deals_ok w0 x'.m x'.l n_0 _ _ (hsets_1.mono hx.1) _ (gd_get (d := false) ha8 hG) w hw)) ?_
  refine W.g rfl rfl rfl rfl rfl (.t rfl _) rfl (by decide) (fun hG => Yd.not rfl (.g rfl hG)) ?_
  refine W.q rfl rfl rfl rfl (by decide) (Yd.and rfl (.t rfl) .c rfl rfl) ?_
  refine W.end ?_
  refine NX.sub (env' := [(0, _), (1, _), (2, _), (3, _), (9, _), (10, _), (11, _), (38, _)]) ⟨rfl, rfl, rfl, rfl, rfl, rfl, rfl, rfl, trivial⟩ ?_
  refine NX.then ?_
  refine Tr.join (S := fun env x => ∃ x_9 : Int, env = [(0, .int .i64 n_0), (1, usets_1), (2, .int .u8 (secret_2.toNat : Int)), (3, udice_3), (9, u3), (10, .int .i64 r1.2), (11, .int .i64 x_9)] ∧ x = ⟨m4, l⟩ ∧ syllogistlaw_ShareDeals_k10 n_0 sets_1 secret_2 dice_3 r1 x_9 = some r) ?_ (fun hk11 => ?_)
  · rintro _ _ ⟨x_9, rfl, rfl, hr⟩
    unfold syllogistlaw_ShareDeals_k10 at hr
    try dsimp only at hr
    refine NX.then ?_
    refine Tr.seq ?_
    refine Tr.seq ?_
    refine Tr.region_f (fun i => Nat.beq i 7) ?_
    refine W.q rfl rfl rfl rfl (by decide) (Yd.mv rfl (.t rfl)) ?_
    refine W.q rfl rfl rfl rfl (by decide) (Yd.eql rfl (.t rfl) .c) ?_
    refine W.q rfl rfl rfl rfl (by decide) (Yd.mv rfl (.t rfl)) ?_
    refine W.g rfl rfl rfl rfl rfl (.t rfl _) rfl (by decide) (fun hG => Yd.mv rfl (.t rfl)) ?_
    refine W.g rfl rfl rfl rfl rfl (.t rfl _) rfl (by decide) (fun hG => Yd.lenR hdice_3 rfl Try.underlying39 (.g rfl hG)) ?_
    refine W.g rfl rfl rfl rfl rfl (.t rfl _) rfl (by decide) (fun hG => Yd.mv rfl (.t rfl)) ?_
    refine W.g rfl rfl rfl rfl rfl (.t rfl _) rfl (by decide) (fun hG => Yd.mv rfl (.t rfl)) ?_
    refine W.split (b := ((x_9 == (0 : Int)) == true)) (fun hb12 => ?_) (fun hb12 => ?_)
    · have hr := cond_t hb12 hr
      obtain ⟨r13, hr14, hr⟩ := bind_some hr
      refine W.ge rfl rfl rfl rfl rfl (.t rfl _) hb12 rfl (by decide) (Ef.call (R := fun z x' => ∃ v15 : Value, z = v15 ∧ x' = ⟨m4, hownT 31 1 encU v15 r13 :: l⟩) rfl Try.func10 rfl rfl (.cons (.g rfl hb12) (.cons (.g rfl hb12) .nil)) (fun w hw => (syllogistref_MostLost_ok w0 _ _ n_0 _ _ hsets_1 _ hr14 w hw).mono fun e w' ⟨v15, he, hc'⟩ => ⟨_, _, he, ⟨v15, rfl, rfl⟩, hc'⟩)) ?_
      rintro v15 _ ⟨_, rfl, rfl⟩
      refine ⟨.inl rfl, ?_⟩
      refine W.cast (m' := m4) (l' := hownT 31 1 encU v15 _ :: l) rfl rfl ?_
      refine W.g rfl rfl rfl rfl rfl (.t rfl _) rfl (by decide) (fun hG => Yd.lenO (p := 0) rfl rfl Try.underlying22 (.t rfl)) ?_
      refine W.g rfl rfl rfl rfl rfl (.t rfl _) rfl (by decide) (fun hG => Yd.sub rfl (.g rfl hb12) .c) ?_
      refine W.g rfl rfl rfl rfl rfl (.t rfl _) rfl (by decide) (fun hG => Yd.neq rfl (.g rfl hb12) (.g rfl hb12)) ?_
      refine W.q rfl rfl rfl rfl (by decide) (Yd.and rfl (.t rfl) .c rfl rfl) ?_
      refine W.end ?_
      refine NX.sub (env' := [(0, _), (1, _), (2, _), (3, _), (9, _), (10, _), (11, _), (50, _)]) ⟨rfl, rfl, rfl, rfl, rfl, rfl, rfl, rfl, trivial⟩ ?_
      refine NX.drop (l' := l) (.cons _ (.refl _)) ?_
      refine NX.then ?_
      refine Tr.join (S := fun env x => ∃ x_17 : Int, env = [(0, .int .i64 n_0), (1, usets_1), (2, .int .u8 (secret_2.toNat : Int)), (3, udice_3), (9, u3), (10, .int .i64 r1.2), (11, .int .i64 x_17)] ∧ x = ⟨m4, l⟩ ∧ syllogistlaw_ShareDeals_k18 n_0 sets_1 secret_2 dice_3 r1 x_17 = some r) ?_ (fun hk19 => ?_)
      · rintro _ _ ⟨x_17, rfl, rfl, hr⟩
        unfold syllogistlaw_ShareDeals_k18 at hr
        try dsimp only at hr
        refine NX.then ?_
        refine Tr.seq ?_
        refine Tr.seq ?_
        refine Tr.region_f (fun _ => false) ?_
        refine W.q rfl rfl rfl rfl (by decide) (Yd.mv rfl (.t rfl)) ?_
        refine W.q rfl rfl rfl rfl (by decide) (Yd.neq rfl (.t rfl) .c) ?_
        refine W.end ?_
        refine NX.sub (env' := [(0, _), (1, _), (2, _), (3, _), (9, _), (10, _), (11, _), (52, _)]) ⟨rfl, rfl, rfl, rfl, rfl, rfl, rfl, rfl, trivial⟩ ?_
        refine NX.then ?_
        refine Tr.cond (.t rfl) (fun hb => ?_) (fun hb => ?_)
        · have hr := cond_t hb hr
          refine Tr.seq ?_
          refine Tr.region_f (fun _ => false) ?_
          refine W.q rfl rfl rfl rfl (by decide) (Yd.mv rfl (.t rfl)) ?_
          refine W.q rfl rfl rfl rfl (by decide) (Yd.mv rfl (.t rfl)) ?_
          refine W.q rfl rfl rfl rfl (by decide) (Yd.eql rfl (.t rfl) (.t rfl)) ?_
          refine W.q rfl rfl rfl rfl (by decide) (Yd.mv rfl (.t rfl)) ?_
          refine W.g rfl rfl rfl rfl rfl (.t rfl _) rfl (by decide) (fun hG => Yd.mv rfl (.t rfl)) ?_
          refine W.g rfl rfl rfl rfl rfl (.t rfl _) rfl (by decide) (fun hG => Yd.lenR hu5 rfl Try.underlying30 (.g rfl hG)) ?_
          refine W.g rfl rfl rfl rfl rfl (.t rfl _) rfl (by decide) (fun hG => Yd.eql rfl (.g rfl hG) .c) ?_
          refine W.q rfl rfl rfl rfl (by decide) (Yd.and rfl (.t rfl) .c rfl rfl) ?_
          refine W.q rfl rfl rfl rfl (by decide) (Yd.as rfl (.t rfl)) ?_
          refine W.end ?_
          refine NX.sub (env' := [(8, _)]) ⟨rfl, trivial⟩ ?_
          refine NX.then ?_
          refine Tr.ret' (RT.then ?_)
          refine res1 rfl rfl ?_
          intro w hc
          cases hr
          exact ⟨rfl, (cX_le (x := ⟨m, _⟩) ⟨hsm4, [], rfl⟩ hc)⟩
        · have hr := cond_f hb hr
          refine Tr.skip' ?_
          refine NX.then ?_
          refine Tr.seq ?_
          refine Tr.seq ?_
          refine Tr.region_f (fun _ => false) ?_
          refine W.q rfl rfl rfl rfl (by decide) (Yd.mv rfl (.t rfl)) ?_
          refine W.q rfl rfl rfl rfl (by decide) (Yd.neq rfl (.t rfl) .c) ?_
          refine W.q rfl rfl rfl rfl (by decide) (Yd.mv rfl (.t rfl)) ?_
          refine W.g rfl rfl rfl rfl rfl (.t rfl _) rfl (by decide) (fun hG => Yd.mv rfl (.t rfl)) ?_
          refine W.g rfl rfl rfl rfl rfl (.t rfl _) rfl (by decide) (fun hG => Yd.lenR hu5 rfl Try.underlying30 (.g rfl hG)) ?_
          refine W.g rfl rfl rfl rfl rfl (.t rfl _) rfl (by decide) (fun hG => Yd.mv rfl (.t rfl)) ?_
          refine W.g rfl rfl rfl rfl rfl (.t rfl _) rfl (by decide) (fun hG => Yd.neq rfl (.g rfl hG) (.g rfl hG)) ?_
          refine W.q rfl rfl rfl rfl (by decide) (Yd.or rfl (.t rfl) .c rfl rfl) ?_
          refine W.end ?_
          refine NX.sub (env' := [(0, _), (1, _), (2, _), (3, _), (9, _), (68, _)]) ⟨rfl, rfl, rfl, rfl, rfl, rfl, trivial⟩ ?_
          refine NX.then ?_
          refine Tr.cond (.t rfl) (fun hb => ?_) (fun hb => ?_)
          · have hr := cond_t hb hr
            refine Tr.seq ?_
            refine Tr.region_f (fun _ => false) ?_
            refine W.q rfl rfl rfl rfl (by decide) (Yd.as rfl .c) ?_
            refine W.end ?_
            refine NX.sub (env' := [(8, _)]) ⟨rfl, trivial⟩ ?_
            refine NX.then ?_
            refine Tr.ret' (RT.then ?_)
            refine res1 rfl rfl ?_
            intro w hc
            cases hr
            exact ⟨rfl, (cX_le (x := ⟨m, _⟩) ⟨hsm4, [], rfl⟩ hc)⟩
          · have hr := cond_f hb hr
            refine Tr.skip' ?_
            refine NX.then ?_
            refine Tr.seq ?_
            refine Tr.region_f (fun _ => false) ?_
            refine W.q rfl rfl rfl rfl (by decide) (Yd.mv rfl (.t rfl)) ?_
            refine W.q rfl rfl rfl rfl (by decide) (Yd.as rfl (.t rfl)) ?_
            refine W.end ?_
            refine NX.sub (env' := [(0, _), (1, _), (3, _), (9, _), (12, _)]) ⟨rfl, rfl, rfl, rfl, rfl, trivial⟩ ?_
            refine NX.then ?_
            refine Tr.seq ?_
            refine Tr.seq ?_
            refine Tr.region_f (fun _ => false) ?_
            refine W.q rfl rfl rfl rfl (by decide) (Yd.mv rfl (.t rfl)) ?_
            refine W.q rfl rfl rfl rfl (by decide) (Yd.lenR hdice_3 rfl Try.underlying39 (.t rfl)) ?_
            refine W.q rfl rfl rfl rfl (by decide) (Yd.mv rfl .c) ?_
            refine W.end ?_
            refine NX.sub (env' := [(0, _), (1, _), (3, _), (9, _), (12, _), (70, _), (71, _), (72, _)]) ⟨rfl, rfl, rfl, rfl, rfl, rfl, rfl, rfl, trivial⟩ ?_
            refine NX.then ?_
            refine Tr.join (S := fun env x => ∃ last_24 : BitVec 8, env = [(0, .int .i64 n_0), (1, usets_1), (3, udice_3), (9, u3), (12, .int .u8 (last_24.toNat : Int))] ∧ x = ⟨m4, l⟩ ∧ syllogistlaw_ShareDeals_k25 n_0 sets_1 dice_3 r1 last_24 = some r) ?_ (fun hk26 => ?_)
            · rintro _ _ ⟨last_24, rfl, rfl, hr⟩
              unfold syllogistlaw_ShareDeals_k25 at hr
              try dsimp only at hr
              refine NX.then ?_
              refine Tr.seq ?_
              refine Tr.seq ?_
              refine Tr.region_f (fun _ => false) ?_
              refine W.q rfl rfl rfl rfl (by decide) (Yd.as rfl .c) ?_
              refine W.end ?_
              refine NX.sub (env' := [(0, _), (1, _), (3, _), (9, _), (12, _), (15, _)]) ⟨rfl, rfl, rfl, rfl, rfl, rfl, trivial⟩ ?_
              refine NX.then ?_
              refine Tr.join (S := fun env x => env = [] ∧ x = ⟨m4, l⟩ ∧ syllogistlaw_ShareDeals_k29 = some r) ?_ (fun hk30 => ?_)
              · rintro _ _ ⟨rfl, rfl, hr⟩
                unfold syllogistlaw_ShareDeals_k29 at hr
                try dsimp only at hr
                refine NX.then ?_
                refine Tr.seq ?_
                refine Tr.region_f (fun _ => false) ?_
                refine W.q rfl rfl rfl rfl (by decide) (Yd.as rfl .c) ?_
                refine W.end ?_
                refine NX.sub (env' := [(8, _)]) ⟨rfl, trivial⟩ ?_
                refine NX.then ?_
                refine Tr.ret' ?_
                refine res1 rfl rfl ?_
                intro w hc
                cases hr
                exact ⟨rfl, (cX_le (x := ⟨m, _⟩) ⟨hsm4, [], rfl⟩ hc)⟩
              obtain ⟨hle31, hr⟩ := guard_some hr; replace hle31 := of_decide_eq_true hle31
              refine Tr.block ?_
              refine Tr.sub (env' := [(0, _), (1, _), (3, _), (9, _), (12, _), (15, _)]) ⟨rfl, rfl, rfl, rfl, rfl, rfl, trivial⟩ ?_
              refine Tr.loop (S := fun n (z : Int × Unit) env x => match z with | (i_32, _) => env = [(0, .int .i64 n_0), (1, usets_1), (3, udice_3), (9, u3), (12, .int .u8 (last_24.toNat : Int)), (15, .int .i64 i_32)] ∧ x = ⟨m4, l⟩ ∧ n = (n_0 - i_32).toNat ∧ 0 ≤ i_32 ∧ forK (σ := Unit) (fun i s nx_ => syllogistlaw_ShareDeals_b33 n_0 sets_1 dice_3 r1 last_24 i nx_) (fun _ => syllogistlaw_ShareDeals_k29) n i_32 () = some r) _ ((0 : Int), ()) ⟨rfl, rfl, rfl, (by omega), hr⟩ ?_
              rintro n35 ⟨i_32, _⟩ env x ⟨rfl, rfl, hni_32, h0i_32, hr⟩
              cases n35 with
              | zero =>
                simp only [forK] at hr
                refine Tr.seq ?_
                refine Tr.seq ?_
                refine Tr.region_f (fun _ => false) ?_
                refine W.q rfl rfl rfl rfl (by decide) (Yd.mv rfl (.t rfl)) ?_
                refine W.q rfl rfl rfl rfl (by decide) (Yd.mv rfl (.t rfl)) ?_
                refine W.q rfl rfl rfl rfl (by decide) (Yd.lss rfl (.t rfl) (.t rfl)) ?_
                refine W.end ?_
                refine NX.sub (env' := [(0, _), (1, _), (3, _), (9, _), (12, _), (15, _), (82, _)]) ⟨rfl, rfl, rfl, rfl, rfl, rfl, rfl, trivial⟩ ?_
                refine NX.then ?_
                refine Tr.cond (.t rfl) (fun hb => ?_) (fun hb => ?_)
                · exact absurd (hb.symm.trans (fr_end hni_32)) (by decide)
                ·
                  refine Tr.exit' (EX.then (EX.then (EX.block ?_)))
                  refine NX.sub (env' := []) trivial ?_
                  exact hk30 _ _ ⟨rfl, rfl, hr⟩
              | succ n35 =>
                obtain ⟨nx34, hnx34, hr⟩ := forK_succ hr
                try dsimp only at hr
                unfold syllogistlaw_ShareDeals_b33 at hr
                try dsimp only at hr
                have hlti_32 := fr_bnd hni_32
                refine Tr.seq ?_
                refine Tr.seq ?_
                refine Tr.region_f (fun _ => false) ?_
                refine W.q rfl rfl rfl rfl (by decide) (Yd.mv rfl (.t rfl)) ?_
                refine W.q rfl rfl rfl rfl (by decide) (Yd.mv rfl (.t rfl)) ?_
                refine W.q rfl rfl rfl rfl (by decide) (Yd.lss rfl (.t rfl) (.t rfl)) ?_
                refine W.end ?_
                refine NX.sub (env' := [(0, _), (1, _), (3, _), (9, _), (12, _), (15, _), (82, _)]) ⟨rfl, rfl, rfl, rfl, rfl, rfl, rfl, trivial⟩ ?_
                refine NX.then ?_
                refine Tr.cond (.t rfl) (fun hb => ?_) (fun hb => ?_)
                rotate_left
                · exact absurd (hb.symm.trans (fr_go hni_32)) (by decide)
                ·
                  refine Tr.skip' ?_
                  refine NX.then ?_
                  refine Tr.seq ?_
                  refine Tr.block ?_
                  refine Tr.seq ?_
                  refine Tr.region_f (fun _ => false) ?_
                  refine W.q rfl rfl rfl rfl (by decide) (Yd.as rfl .c) ?_
                  refine W.end ?_
                  refine NX.sub (env' := [(0, _), (1, _), (3, _), (9, _), (12, _), (15, _), (16, _)]) ⟨rfl, rfl, rfl, rfl, rfl, rfl, rfl, trivial⟩ ?_
                  refine NX.then ?_
                  refine Tr.seq ?_
                  refine Tr.seq ?_
                  obtain ⟨r36, hr37, hr⟩ := bind_some hr
                  refine Tr.region_f (fun i => Nat.beq i 2) ?_
                  refine W.q rfl rfl rfl rfl (by decide) (Yd.mv rfl (.t rfl)) ?_
                  refine W.q rfl rfl rfl rfl (by decide) (Yd.mv rfl (.t rfl)) ?_
                  refine W.e rfl rfl rfl rfl (by decide) (Ef.call (R := fun z x' => ∃ v38 : Value, z = v38 ∧ x' = ⟨m4, hownT 31 1 encU v38 r36 :: l⟩) rfl Try.func10 rfl rfl (.cons (.t rfl) (.cons (.t rfl) .nil)) (fun w hw => (syllogistref_MostLost_ok w0 _ _ n_0 _ _ hsets_1 _ hr37 w hw).mono fun e w' ⟨v38, he, hc'⟩ => ⟨_, _, he, ⟨v38, rfl, rfl⟩, hc'⟩)) ?_
                  rintro v38 _ ⟨_, rfl, rfl⟩
                  refine ⟨.inl rfl, ?_⟩
                  refine W.cast (m' := m4) (l' := hownT 31 1 encU v38 _ :: l) rfl rfl ?_
                  refine W.q rfl rfl rfl rfl (by decide) (Yd.lenO (p := 0) rfl rfl Try.underlying22 (.t rfl)) ?_
                  refine W.q rfl rfl rfl rfl (by decide) (Yd.mv rfl .c) ?_
                  refine W.end ?_
                  refine NX.sub (env' := [(0, _), (1, _), (3, _), (9, _), (12, _), (15, _), (16, _), (87, _), (88, _), (89, _)]) ⟨rfl, rfl, rfl, rfl, rfl, rfl, rfl, rfl, rfl, rfl, trivial⟩ ?_
                  refine NX.then ?_
                  refine Tr.addnil 3 1 ?_
                  refine Tr.join (S := fun env x => ∃ l47 : List Int, ∃ v48 : Value, env = [(0, .int .i64 n_0), (1, usets_1), (3, udice_3), (9, u3), (12, .int .u8 (last_24.toNat : Int)), (15, .int .i64 i_32), (16, v48)] ∧ x = ⟨m4, hownT 3 1 encI v48 l47 :: l⟩ ∧ syllogistlaw_ShareDeals_k49 r1 i_32 nx34 l47 = some r) ?_ (fun hk50 => ?_)
                  · rintro _ _ ⟨l47, v48, rfl, rfl, hr⟩
                    unfold syllogistlaw_ShareDeals_k49 at hr
                    try dsimp only at hr
                    refine NX.then ?_
                    refine Tr.seq ?_
                    obtain ⟨y51, hy52, hr⟩ := bind_some hr
                    obtain ⟨r56, hr57, hr⟩ := bind_some hr
                    refine Tr.region_f (fun _ => false) ?_
                    refine W.q rfl rfl rfl rfl (by decide) (Yd.mv rfl (.t rfl)) ?_
                    refine W.q rfl rfl rfl rfl (by decide) (Yd.mv rfl (.t rfl)) ?_
                    refine W.q rfl rfl rfl rfl (by decide) (Yd.idxR hu5 hy52 rfl Try.underlying30 SZ34 (.t rfl) (.t rfl)) ?_
                    obtain ⟨u53, hu54, hat55⟩ := hu5.row hy52
                    refine W.q rfl rfl rfl rfl (by decide) (Yd.ldRow hat55 (.refl _) rfl ON34 (.t rfl)) ?_
                    refine W.q rfl rfl rfl rfl (by decide) (Yd.mv rfl (.t rfl)) ?_
                    refine W.q rfl rfl rfl rfl (by decide) (Yd.call (v := .bool r56) rfl Try.func17 rfl rfl (.cons (.t rfl) (.cons (.t rfl) .nil)) (by intro x' hx w hw; obtain ⟨p0, hp0⟩ := hx.at (p := 0) rfl; obtain ⟨m2, hm2, hc2, ⟨L2, hl1, hl2⟩, hback⟩ := cX_lend hw hp0 lone_own; have hL1 : RS rI m2 _ _ := RS_of_own hl1 hl2; exact (syllogistref_Ints_ok w0 m2 _ _ _ (hu54.mono (hx.1.trans hm2)) _ _ hL1 _ hr57 w hc2).mono fun e w' ⟨he, hc'⟩ => ⟨he, (hback m2 _ _ w' (.refl _) hp0).2 hc'⟩)) ?_
                    refine W.q rfl rfl rfl rfl (by decide) (Yd.not rfl (.t rfl)) ?_
                    refine W.end ?_
                    refine NX.sub (env' := [(0, _), (1, _), (3, _), (9, _), (12, _), (15, _), (119, _)]) ⟨rfl, rfl, rfl, rfl, rfl, rfl, rfl, trivial⟩ ?_
                    refine NX.drop (l' := l) (.cons _ (.refl _)) ?_
                    refine NX.then ?_
                    refine Tr.cond (.t rfl) (fun hb => ?_) (fun hb => ?_)
                    · have hr := cond_t hb hr
                      refine Tr.seq ?_
                      refine Tr.region_f (fun _ => false) ?_
                      refine W.q rfl rfl rfl rfl (by decide) (Yd.as rfl .c) ?_
                      refine W.end ?_
                      refine NX.sub (env' := [(8, _)]) ⟨rfl, trivial⟩ ?_
                      refine NX.then ?_
                      refine Tr.ret' (RT.block (RT.then (RT.then (RT.block (RT.then ?_)))))
                      refine res1 rfl rfl ?_
                      intro w hc
                      cases hr
                      exact ⟨rfl, (cX_le (x := ⟨m, _⟩) ⟨hsm4, [], rfl⟩ hc)⟩
                    · have hr := cond_f hb hr
                      refine Tr.skip' ?_
                      refine NX.block ?_
                      refine NX.then ?_
                      refine Tr.region_f (fun _ => false) ?_
                      refine W.q rfl rfl rfl rfl (by decide) (Yd.mv rfl (.t rfl)) ?_
                      refine W.q rfl rfl rfl rfl (by decide) (Yd.add rfl (.t rfl) .c) ?_
                      refine W.q rfl rfl rfl rfl (by decide) (Yd.as rfl (.t rfl)) ?_
                      refine W.end ?_
                      refine NX.sub (env' := [(0, _), (1, _), (3, _), (9, _), (12, _), (15, _)]) ⟨rfl, rfl, rfl, rfl, rfl, rfl, trivial⟩ ?_
                      refine NX.sub (env' := [(0, _), (1, _), (3, _), (9, _), (12, _), (15, _)]) ⟨rfl, rfl, rfl, rfl, rfl, rfl, trivial⟩ ?_
                      have hw := w64_id (n := i_32 + 1) (by omega) (by omega)
                      exact NX.again n35 (i_32 + 1, ()) (Nat.lt_succ_self _) ⟨(by rw [hw] <;> rfl), rfl, (fr_dec hni_32), (by omega), ((hnx34 _).symm.trans hr)⟩
                  refine Tr.lenO (pos := 1) rfl (fun hlen58 => ?_)
                  refine Tr.block ?_
                  refine Tr.sub (env' := [(0, _), (1, _), (3, _), (9, _), (12, _), (15, _), (16, _), (87, _), (88, _), (89, _)]) ⟨rfl, rfl, rfl, rfl, rfl, rfl, rfl, rfl, rfl, rfl, trivial⟩ ?_
                  refine Tr.loop (S := fun n (z : Int × (List Int)) env x => match z with | (t_59, l45) => ∃ v46 : Value, env = [(0, .int .i64 n_0), (1, usets_1), (3, udice_3), (9, u3), (12, .int .u8 (last_24.toNat : Int)), (15, .int .i64 i_32), (16, v46), (87, v38), (88, .int .i64 ((r36.length : Int))), (89, .int .i64 t_59)] ∧ x = ⟨m4, hownT 3 1 encI v46 l45 :: hownT 31 1 encU v38 r36 :: l⟩ ∧ n = ((r36.length : Int) - t_59).toNat ∧ 0 ≤ t_59 ∧ forK (σ := (List Int)) (fun i s nx_ => syllogistlaw_ShareDeals_b60 dice_3 last_24 i_32 r36 i s nx_) (fun s => syllogistlaw_ShareDeals_k49 r1 i_32 nx34 s) n t_59 l45 = some r) _ ((0 : Int), ([] : List Int)) ⟨_, rfl, rfl, rfl, (by omega), hr⟩ ?_
                  rintro n62 ⟨t_59, l45⟩ env x ⟨v46, rfl, rfl, hnt_59, h0t_59, hr⟩
                  cases n62 with
                  | zero =>
                    simp only [forK] at hr
                    refine Tr.seq ?_
                    refine Tr.region_f (fun _ => false) ?_
                    refine W.q rfl rfl rfl rfl (by decide) (Yd.lss rfl (.t rfl) (.t rfl)) ?_
                    refine W.end ?_
                    refine NX.sub (env' := [(0, _), (1, _), (3, _), (9, _), (12, _), (15, _), (16, _), (87, _), (88, _), (89, _), (90, _)]) ⟨rfl, rfl, rfl, rfl, rfl, rfl, rfl, rfl, rfl, rfl, rfl, trivial⟩ ?_
                    refine NX.then ?_
                    refine Tr.seq ?_
                    refine Tr.cond (.t rfl) (fun hb => ?_) (fun hb => ?_)
                    · exact absurd (hb.symm.trans (fr_end hnt_59)) (by decide)
                    ·
                      refine Tr.exit' (EX.then (EX.then (EX.block ?_)))
                      refine NX.sub (env' := [(0, _), (1, _), (3, _), (9, _), (12, _), (15, _), (16, _)]) ⟨rfl, rfl, rfl, rfl, rfl, rfl, rfl, trivial⟩ ?_
                      refine NX.drop (l' := hownT 3 1 encI v46 _ :: l) (.cons_cons _ (.cons _ (.refl _))) ?_
                      exact hk50 _ _ ⟨_, _, rfl, rfl, hr⟩
                  | succ n62 =>
                    obtain ⟨nx61, hnx61, hr⟩ := forK_succ hr
                    try dsimp only at hr
                    unfold syllogistlaw_ShareDeals_b60 at hr
                    try dsimp only at hr
                    have hltt_59 := fr_bnd hnt_59
                    refine Tr.seq ?_
                    refine Tr.region_f (fun _ => false) ?_
                    refine W.q rfl rfl rfl rfl (by decide) (Yd.lss rfl (.t rfl) (.t rfl)) ?_
                    refine W.end ?_
                    refine NX.sub (env' := [(0, _), (1, _), (3, _), (9, _), (12, _), (15, _), (16, _), (87, _), (88, _), (89, _), (90, _)]) ⟨rfl, rfl, rfl, rfl, rfl, rfl, rfl, rfl, rfl, rfl, rfl, trivial⟩ ?_
                    refine NX.then ?_
                    refine Tr.seq ?_
                    refine Tr.cond (.t rfl) (fun hb => ?_) (fun hb => ?_)
                    rotate_left
                    · exact absurd (hb.symm.trans (fr_go hnt_59)) (by decide)
                    ·
                      refine Tr.skip' ?_
                      refine NX.then ?_
                      refine Tr.seq ?_
                      refine Tr.block ?_
                      refine Tr.seq ?_
                      obtain ⟨y63, hy64, hr⟩ := bind_some hr
                      refine Tr.region_f (fun _ => false) ?_
                      refine W.q rfl rfl rfl rfl (by decide) (Yd.mv rfl (.t rfl)) ?_
                      refine W.q rfl rfl rfl rfl (by decide) (Yd.idxT (pos := 1) rfl hy64 rfl Try.underlying22 SZ31 (.t rfl) (.t rfl)) ?_
                      refine W.q rfl rfl rfl rfl (by decide) (Yd.ldT (enc := encU) (n := 1) (pos := 1) (fun _ => rfl) rfl hy64 rfl rfl ON31 (.t rfl)) ?_
                      refine W.q rfl rfl rfl rfl (by decide) (Yd.as rfl (.t rfl)) ?_
                      refine W.q rfl rfl rfl rfl (by decide) (Yd.as rfl (.t rfl)) ?_
                      refine W.end ?_
                      refine NX.sub (env' := [(0, _), (1, _), (3, _), (9, _), (12, _), (15, _), (16, _), (87, _), (88, _), (89, _), (17, _), (18, _)]) ⟨rfl, rfl, rfl, rfl, rfl, rfl, rfl, rfl, rfl, rfl, rfl, rfl, trivial⟩ ?_
                      refine NX.then ?_
                      refine Tr.seq ?_
                      refine Tr.region_f (fun _ => false) ?_
                      refine W.q rfl rfl rfl rfl (by decide) (Yd.mv rfl (.t rfl)) ?_
                      refine W.q rfl rfl rfl rfl (by decide) (Yd.cvBI (a := last_24) rfl US5 Try.underlying3 (.t rfl)) ?_
                      refine W.q rfl rfl rfl rfl (by decide) (Yd.as rfl (.t rfl)) ?_
                      refine W.end ?_
                      refine NX.sub (env' := [(0, _), (1, _), (3, _), (9, _), (12, _), (15, _), (16, _), (87, _), (88, _), (89, _), (17, _), (18, _), (19, _)]) ⟨rfl, rfl, rfl, rfl, rfl, rfl, rfl, rfl, rfl, rfl, rfl, rfl, rfl, trivial⟩ ?_
                      refine NX.then ?_
                      refine Tr.seq ?_
                      refine Tr.seq ?_
                      refine Tr.region_f (fun _ => false) ?_
                      refine W.q rfl rfl rfl rfl (by decide) (Yd.mv rfl (.t rfl)) ?_
                      refine W.q rfl rfl rfl rfl (by decide) (Yd.mv rfl (.t rfl)) ?_
                      refine W.q rfl rfl rfl rfl (by decide) (Yd.lenR hdice_3 rfl Try.underlying39 (.t rfl)) ?_
                      refine W.q rfl rfl rfl rfl (by decide) (Yd.lss rfl (.t rfl) (.t rfl)) ?_
                      refine W.end ?_
                      refine NX.sub (env' := [(0, _), (1, _), (3, _), (9, _), (12, _), (15, _), (16, _), (87, _), (88, _), (89, _), (17, _), (18, _), (19, _), (99, _)]) ⟨rfl, rfl, rfl, rfl, rfl, rfl, rfl, rfl, rfl, rfl, rfl, rfl, rfl, rfl, trivial⟩ ?_
                      refine NX.then ?_
                      refine Tr.join (S := fun env x => ∃ part_65 : Int, env = [(0, .int .i64 n_0), (1, usets_1), (3, udice_3), (9, u3), (12, .int .u8 (last_24.toNat : Int)), (15, .int .i64 i_32), (16, v46), (87, v38), (88, .int .i64 ((r36.length : Int))), (89, .int .i64 t_59), (18, .int .u32 (y63.toNat : Int)), (19, .int .i64 part_65)] ∧ x = ⟨m4, hownT 3 1 encI v46 l45 :: hownT 31 1 encU v38 r36 :: l⟩ ∧ syllogistlaw_ShareDeals_k66 i_32 l45 nx61 y63 part_65 = some r) ?_ (fun hk67 => ?_)
                      · rintro _ _ ⟨part_65, rfl, rfl, hr⟩
                        unfold syllogistlaw_ShareDeals_k66 at hr
                        try dsimp only at hr
                        refine NX.then ?_
                        refine Tr.seq ?_
                        refine Tr.seq ?_
                        obtain ⟨r68, hr69, hr⟩ := bind_some hr
                        refine Tr.region_f (fun _ => false) ?_
                        refine W.q rfl rfl rfl rfl (by decide) (Yd.mv rfl (.t rfl)) ?_
                        refine W.q rfl rfl rfl rfl (by decide) (Yd.mv rfl (.t rfl)) ?_
                        refine W.q rfl rfl rfl rfl (by decide) (Yd.call (v := .bool r68) rfl Try.func16 rfl rfl (.cons (.t rfl) (.cons (.t rfl) .nil)) (fun x' hx w hw => syllogistref_Bit_ok w0 x'.m x'.l y63 i_32 _ hr69 w hw)) ?_
                        refine W.end ?_
                        refine NX.sub (env' := [(0, _), (1, _), (3, _), (9, _), (12, _), (15, _), (16, _), (87, _), (88, _), (89, _), (19, _), (107, _)]) ⟨rfl, rfl, rfl, rfl, rfl, rfl, rfl, rfl, rfl, rfl, rfl, rfl, trivial⟩ ?_
                        refine NX.then ?_
                        refine Tr.cond (.t rfl) (fun hb => ?_) (fun hb => ?_)
                        · have hr := cond_t hb hr
                          refine Tr.region_f (fun _ => false) ?_
                          refine W.q rfl rfl rfl rfl (by decide) (Yd.as rfl .c) ?_
                          refine W.end ?_
                          refine NX.sub (env' := [(0, _), (1, _), (3, _), (9, _), (12, _), (15, _), (16, _), (87, _), (88, _), (89, _), (19, _)]) ⟨rfl, rfl, rfl, rfl, rfl, rfl, rfl, rfl, rfl, rfl, rfl, trivial⟩ ?_
                          refine NX.then ?_
                          obtain ⟨hq73, hr⟩ := guard_some hr; replace hq73 := of_decide_eq_true hq73
                          refine Tr.region_f (fun i => Nat.beq i 2 || Nat.beq i 3) ?_
                          refine W.q rfl rfl rfl rfl (by decide) (Yd.mv rfl (.t rfl)) ?_
                          refine W.q rfl rfl rfl rfl (by decide) (Yd.mv rfl (.t rfl)) ?_
                          refine W.e rfl rfl rfl rfl (by decide) (Ef.bsT (enc := encI) (vs := [_]) (ys := [(-1 : Int)]) (fun _ => rfl) IF3 rfl Try.underlying34 (by decide) rfl (.cons (.t rfl) .nil) rfl rfl (by decide)) ?_
                          rintro v70 _ rfl
                          refine ⟨.inl rfl, ?_⟩
                          refine W.cast (m' := m4) (l' := hownT 3 1 encI v70 _ :: hownT 3 1 encI v46 _ :: hownT 31 1 encU v38 _ :: l) rfl rfl ?_
                          refine W.e rfl rfl rfl rfl (by decide) (Ef.apI (pos := 1) (enc := encI) (xs := l45) (ys := ([(-1 : Int)] : List Int)) (fun _ => rfl) IF3 rfl rfl Try.underlying34 rfl (by decide) (.t rfl) (.t rfl) (Src.own (pos := 0) rfl) (fun _ => rfl) (by omega) (by omega)) ?_
                          rintro v72 _ rfl
                          refine ⟨.inl rfl, ?_⟩
                          refine W.cast (m' := m4) (l' := hownT 3 1 encI v70 _ :: hownT 3 1 encI v72 _ :: hownT 31 1 encU v38 _ :: l) rfl rfl ?_
                          refine W.q rfl rfl rfl rfl (by decide) (Yd.as rfl (.t rfl)) ?_
                          refine W.end ?_
                          refine NX.sub (env' := [(0, _), (1, _), (3, _), (9, _), (12, _), (15, _), (16, _), (87, _), (88, _), (89, _)]) ⟨rfl, rfl, rfl, rfl, rfl, rfl, rfl, rfl, rfl, rfl, trivial⟩ ?_
                          refine NX.drop (l' := hownT 3 1 encI v72 _ :: hownT 31 1 encU v38 _ :: l) (.cons _ (.cons_cons _ (.cons_cons _ (.refl _)))) ?_
                          refine NX.block ?_
                          refine NX.then ?_
                          refine Tr.region_f (fun _ => false) ?_
                          refine W.q rfl rfl rfl rfl (by decide) (Yd.add rfl (.t rfl) .c) ?_
                          refine W.q rfl rfl rfl rfl (by decide) (Yd.mv rfl (.t rfl)) ?_
                          refine W.end ?_
                          refine NX.sub (env' := [(0, _), (1, _), (3, _), (9, _), (12, _), (15, _), (16, _), (87, _), (88, _), (89, _)]) ⟨rfl, rfl, rfl, rfl, rfl, rfl, rfl, rfl, rfl, rfl, trivial⟩ ?_
                          refine NX.sub (env' := [(0, _), (1, _), (3, _), (9, _), (12, _), (15, _), (16, _), (87, _), (88, _), (89, _)]) ⟨rfl, rfl, rfl, rfl, rfl, rfl, rfl, rfl, rfl, rfl, trivial⟩ ?_
                          have hw := w64_id (n := t_59 + 1) (by omega) (by omega)
                          exact NX.again n62 (t_59 + 1, (l45 ++ ([(-1 : Int)] : List Int))) (Nat.lt_succ_self _) ⟨_, (by rw [hw] <;> rfl), rfl, (fr_dec hnt_59), (by omega), ((hnx61 _).symm.trans hr)⟩
                        · have hr := cond_f hb hr
                          refine Tr.skip' ?_
                          refine NX.then ?_
                          obtain ⟨hq77, hr⟩ := guard_some hr; replace hq77 := of_decide_eq_true hq77
                          refine Tr.region_f (fun i => Nat.beq i 2 || Nat.beq i 3) ?_
                          refine W.q rfl rfl rfl rfl (by decide) (Yd.mv rfl (.t rfl)) ?_
                          refine W.q rfl rfl rfl rfl (by decide) (Yd.mv rfl (.t rfl)) ?_
                          refine W.e rfl rfl rfl rfl (by decide) (Ef.bsT (enc := encI) (vs := [_]) (ys := [part_65]) (fun _ => rfl) IF3 rfl Try.underlying34 (by decide) rfl (.cons (.t rfl) .nil) rfl rfl (by decide)) ?_
                          rintro v74 _ rfl
                          refine ⟨.inl rfl, ?_⟩
                          refine W.cast (m' := m4) (l' := hownT 3 1 encI v74 _ :: hownT 3 1 encI v46 _ :: hownT 31 1 encU v38 _ :: l) rfl rfl ?_
                          refine W.e rfl rfl rfl rfl (by decide) (Ef.apI (pos := 1) (enc := encI) (xs := l45) (ys := ([part_65] : List Int)) (fun _ => rfl) IF3 rfl rfl Try.underlying34 rfl (by decide) (.t rfl) (.t rfl) (Src.own (pos := 0) rfl) (fun _ => rfl) (by omega) (by omega)) ?_
                          rintro v76 _ rfl
                          refine ⟨.inl rfl, ?_⟩
                          refine W.cast (m' := m4) (l' := hownT 3 1 encI v74 _ :: hownT 3 1 encI v76 _ :: hownT 31 1 encU v38 _ :: l) rfl rfl ?_
                          refine W.q rfl rfl rfl rfl (by decide) (Yd.as rfl (.t rfl)) ?_
                          refine W.end ?_
                          refine NX.sub (env' := [(0, _), (1, _), (3, _), (9, _), (12, _), (15, _), (16, _), (87, _), (88, _), (89, _)]) ⟨rfl, rfl, rfl, rfl, rfl, rfl, rfl, rfl, rfl, rfl, trivial⟩ ?_
                          refine NX.drop (l' := hownT 3 1 encI v76 _ :: hownT 31 1 encU v38 _ :: l) (.cons _ (.cons_cons _ (.cons_cons _ (.refl _)))) ?_
                          refine NX.block ?_
                          refine NX.then ?_
                          refine Tr.region_f (fun _ => false) ?_
                          refine W.q rfl rfl rfl rfl (by decide) (Yd.add rfl (.t rfl) .c) ?_
                          refine W.q rfl rfl rfl rfl (by decide) (Yd.mv rfl (.t rfl)) ?_
                          refine W.end ?_
                          refine NX.sub (env' := [(0, _), (1, _), (3, _), (9, _), (12, _), (15, _), (16, _), (87, _), (88, _), (89, _)]) ⟨rfl, rfl, rfl, rfl, rfl, rfl, rfl, rfl, rfl, rfl, trivial⟩ ?_
                          refine NX.sub (env' := [(0, _), (1, _), (3, _), (9, _), (12, _), (15, _), (16, _), (87, _), (88, _), (89, _)]) ⟨rfl, rfl, rfl, rfl, rfl, rfl, rfl, rfl, rfl, rfl, trivial⟩ ?_
                          have hw := w64_id (n := t_59 + 1) (by omega) (by omega)
                          exact NX.again n62 (t_59 + 1, (l45 ++ ([part_65] : List Int))) (Nat.lt_succ_self _) ⟨_, (by rw [hw] <;> rfl), rfl, (fr_dec hnt_59), (by omega), ((hnx61 _).symm.trans hr)⟩
                      refine Tr.cond (.t rfl) (fun hb => ?_) (fun hb => ?_)
                      · have hr := cond_t hb hr
                        obtain ⟨y78, hy79, hr⟩ := bind_some hr
                        refine Tr.region_f (fun _ => false) ?_
                        refine W.q rfl rfl rfl rfl (by decide) (Yd.mv rfl (.t rfl)) ?_
                        refine W.q rfl rfl rfl rfl (by decide) (Yd.mv rfl (.t rfl)) ?_
                        refine W.q rfl rfl rfl rfl (by decide) (Yd.idxR hdice_3 hy79 rfl Try.underlying39 SZ5 (.t rfl) (.t rfl)) ?_
                        refine W.q rfl rfl rfl rfl (by decide) (Yd.ldF hdice_3 (.refl _) hy79 rfl rfl ON5 (.t rfl)) ?_
                        refine W.q rfl rfl rfl rfl (by decide) (Yd.cvBI (a := y78) rfl US5 Try.underlying3 (.t rfl)) ?_
                        refine W.q rfl rfl rfl rfl (by decide) (Yd.as rfl (.t rfl)) ?_
                        refine W.end ?_
                        refine NX.sub (env' := [(0, _), (1, _), (3, _), (9, _), (12, _), (15, _), (16, _), (87, _), (88, _), (89, _), (18, _), (19, _)]) ⟨rfl, rfl, rfl, rfl, rfl, rfl, rfl, rfl, rfl, rfl, rfl, rfl, trivial⟩ ?_
                        refine NX.sub (env' := [(0, _), (1, _), (3, _), (9, _), (12, _), (15, _), (16, _), (87, _), (88, _), (89, _), (18, _), (19, _)]) ⟨rfl, rfl, rfl, rfl, rfl, rfl, rfl, rfl, rfl, rfl, rfl, rfl, trivial⟩ ?_
                        exact hk67 _ _ ⟨_, rfl, rfl, hr⟩
                      · have hr := cond_f hb hr
                        refine Tr.skip' ?_
                        refine NX.sub (env' := [(0, _), (1, _), (3, _), (9, _), (12, _), (15, _), (16, _), (87, _), (88, _), (89, _), (18, _), (19, _)]) ⟨rfl, rfl, rfl, rfl, rfl, rfl, rfl, rfl, rfl, rfl, rfl, rfl, trivial⟩ ?_
                        exact hk67 _ _ ⟨_, rfl, rfl, hr⟩
            have hlen80 := (hdice_3).2.1
            refine Tr.block ?_
            refine Tr.sub (env' := [(0, _), (1, _), (3, _), (9, _), (12, _), (70, _), (71, _), (72, _)]) ⟨rfl, rfl, rfl, rfl, rfl, rfl, rfl, rfl, trivial⟩ ?_
            refine Tr.loop (S := fun n (z : Int × (BitVec 8)) env x => match z with | (t_81, last_22) => env = [(0, .int .i64 n_0), (1, usets_1), (3, udice_3), (9, u3), (12, .int .u8 (last_22.toNat : Int)), (70, udice_3), (71, .int .i64 ((dice_3.length : Int))), (72, .int .i64 t_81)] ∧ x = ⟨m4, l⟩ ∧ n = ((dice_3.length : Int) - t_81).toNat ∧ 0 ≤ t_81 ∧ forK (σ := (BitVec 8)) (fun i s nx_ => syllogistlaw_ShareDeals_b82 dice_3 i s nx_) (fun s => syllogistlaw_ShareDeals_k25 n_0 sets_1 dice_3 r1 s) n t_81 last_22 = some r) _ ((0 : Int), secret_2) ⟨rfl, rfl, rfl, (by omega), hr⟩ ?_
            rintro n84 ⟨t_81, last_22⟩ env x ⟨rfl, rfl, hnt_81, h0t_81, hr⟩
            cases n84 with
            | zero =>
              simp only [forK] at hr
              refine Tr.seq ?_
              refine Tr.region_f (fun _ => false) ?_
              refine W.q rfl rfl rfl rfl (by decide) (Yd.lss rfl (.t rfl) (.t rfl)) ?_
              refine W.end ?_
              refine NX.sub (env' := [(0, _), (1, _), (3, _), (9, _), (12, _), (70, _), (71, _), (72, _), (73, _)]) ⟨rfl, rfl, rfl, rfl, rfl, rfl, rfl, rfl, rfl, trivial⟩ ?_
              refine NX.then ?_
              refine Tr.seq ?_
              refine Tr.cond (.t rfl) (fun hb => ?_) (fun hb => ?_)
              · exact absurd (hb.symm.trans (fr_end hnt_81)) (by decide)
              ·
                refine Tr.exit' (EX.then (EX.then (EX.block ?_)))
                refine NX.sub (env' := [(0, _), (1, _), (3, _), (9, _), (12, _)]) ⟨rfl, rfl, rfl, rfl, rfl, trivial⟩ ?_
                exact hk26 _ _ ⟨_, rfl, rfl, hr⟩
            | succ n84 =>
              obtain ⟨nx83, hnx83, hr⟩ := forK_succ hr
              try dsimp only at hr
              unfold syllogistlaw_ShareDeals_b82 at hr
              try dsimp only at hr
              have hltt_81 := fr_bnd hnt_81
              refine Tr.seq ?_
              refine Tr.region_f (fun _ => false) ?_
              refine W.q rfl rfl rfl rfl (by decide) (Yd.lss rfl (.t rfl) (.t rfl)) ?_
              refine W.end ?_
              refine NX.sub (env' := [(0, _), (1, _), (3, _), (9, _), (12, _), (70, _), (71, _), (72, _), (73, _)]) ⟨rfl, rfl, rfl, rfl, rfl, rfl, rfl, rfl, rfl, trivial⟩ ?_
              refine NX.then ?_
              refine Tr.seq ?_
              refine Tr.cond (.t rfl) (fun hb => ?_) (fun hb => ?_)
              rotate_left
              · exact absurd (hb.symm.trans (fr_go hnt_81)) (by decide)
              ·
                refine Tr.skip' ?_
                refine NX.then ?_
                refine Tr.seq ?_
                refine Tr.block ?_
                refine Tr.seq ?_
                obtain ⟨y85, hy86, hr⟩ := bind_some hr
                refine Tr.region_f (fun _ => false) ?_
                refine W.q rfl rfl rfl rfl (by decide) (Yd.idxR hdice_3 hy86 rfl Try.underlying39 SZ5 (.t rfl) (.t rfl)) ?_
                refine W.q rfl rfl rfl rfl (by decide) (Yd.ldF hdice_3 (.refl _) hy86 rfl rfl ON5 (.t rfl)) ?_
                refine W.q rfl rfl rfl rfl (by decide) (Yd.as rfl (.t rfl)) ?_
                refine W.end ?_
                refine NX.sub (env' := [(0, _), (1, _), (3, _), (9, _), (12, _), (70, _), (71, _), (72, _), (14, _)]) ⟨rfl, rfl, rfl, rfl, rfl, rfl, rfl, rfl, rfl, trivial⟩ ?_
                refine NX.then ?_
                refine Tr.region_f (fun _ => false) ?_
                refine W.q rfl rfl rfl rfl (by decide) (Yd.mv rfl (.t rfl)) ?_
                refine W.q rfl rfl rfl rfl (by decide) (Yd.mv rfl (.t rfl)) ?_
                refine W.q rfl rfl rfl rfl (by decide) (Yd.xorY (a := last_22) (b := y85) rfl (.t rfl) (.t rfl)) ?_
                refine W.q rfl rfl rfl rfl (by decide) (Yd.as rfl (.t rfl)) ?_
                refine W.end ?_
                refine NX.sub (env' := [(0, _), (1, _), (3, _), (9, _), (12, _), (70, _), (71, _), (72, _)]) ⟨rfl, rfl, rfl, rfl, rfl, rfl, rfl, rfl, trivial⟩ ?_
                refine NX.block ?_
                refine NX.then ?_
                refine Tr.region_f (fun _ => false) ?_
                refine W.q rfl rfl rfl rfl (by decide) (Yd.add rfl (.t rfl) .c) ?_
                refine W.q rfl rfl rfl rfl (by decide) (Yd.mv rfl (.t rfl)) ?_
                refine W.end ?_
                refine NX.sub (env' := [(0, _), (1, _), (3, _), (9, _), (12, _), (70, _), (71, _), (72, _)]) ⟨rfl, rfl, rfl, rfl, rfl, rfl, rfl, rfl, trivial⟩ ?_
                refine NX.sub (env' := [(0, _), (1, _), (3, _), (9, _), (12, _), (70, _), (71, _), (72, _)]) ⟨rfl, rfl, rfl, rfl, rfl, rfl, rfl, rfl, trivial⟩ ?_
                have hw := w64_id (n := t_81 + 1) (by omega) (by omega)
                exact NX.again n84 (t_81 + 1, (last_22 ^^^ y85)) (Nat.lt_succ_self _) ⟨(by rw [hw] <;> rfl), rfl, (fr_dec hnt_81), (by omega), ((hnx83 _).symm.trans hr)⟩
      refine Tr.cond (.t rfl) (fun hb => ?_) (fun hb => ?_)
      · have hr := cond_t hb hr
        refine Tr.region_f (fun _ => false) ?_
        refine W.q rfl rfl rfl rfl (by decide) (Yd.as rfl .c) ?_
        refine W.end ?_
        refine NX.sub (env' := [(0, _), (1, _), (2, _), (3, _), (9, _), (10, _), (11, _)]) ⟨rfl, rfl, rfl, rfl, rfl, rfl, rfl, trivial⟩ ?_
        refine NX.sub (env' := [(0, _), (1, _), (2, _), (3, _), (9, _), (10, _), (11, _)]) ⟨rfl, rfl, rfl, rfl, rfl, rfl, rfl, trivial⟩ ?_
        exact hk19 _ _ ⟨_, rfl, rfl, hr⟩
      · have hr := cond_f hb hr
        refine Tr.skip' ?_
        refine NX.sub (env' := [(0, _), (1, _), (2, _), (3, _), (9, _), (10, _), (11, _)]) ⟨rfl, rfl, rfl, rfl, rfl, rfl, rfl, trivial⟩ ?_
        exact hk19 _ _ ⟨_, rfl, rfl, hr⟩
    · have hr := cond_f hb12 hr
      refine W.gF rfl rfl rfl rfl (.t rfl _) hb12 rfl (by decide) (undef) ?_
      refine W.gF rfl rfl rfl rfl (.t rfl _) hb12 rfl (by decide) (.int .i64 ((0 : Int))) ?_
      refine W.gF rfl rfl rfl rfl (.t rfl _) hb12 rfl (by decide) (.int .i64 ((0 : Int))) ?_
      refine W.gF rfl rfl rfl rfl (.t rfl _) hb12 rfl (by decide) (.bool false) ?_
      refine W.q rfl rfl rfl rfl (by decide) (Yd.and rfl (.t rfl) .c rfl rfl) ?_
      refine W.end ?_
      refine NX.sub (env' := [(0, _), (1, _), (2, _), (3, _), (9, _), (10, _), (11, _), (50, _)]) ⟨rfl, rfl, rfl, rfl, rfl, rfl, rfl, rfl, trivial⟩ ?_
      refine NX.then ?_
      refine Tr.join (S := fun env x => ∃ x_87 : Int, env = [(0, .int .i64 n_0), (1, usets_1), (2, .int .u8 (secret_2.toNat : Int)), (3, udice_3), (9, u3), (10, .int .i64 r1.2), (11, .int .i64 x_87)] ∧ x = ⟨m4, l⟩ ∧ syllogistlaw_ShareDeals_k88 n_0 sets_1 secret_2 dice_3 r1 x_87 = some r) ?_ (fun hk89 => ?_)
      · rintro _ _ ⟨x_87, rfl, rfl, hr⟩
        unfold syllogistlaw_ShareDeals_k88 at hr
        try dsimp only at hr
        refine NX.then ?_
        refine Tr.seq ?_
        refine Tr.seq ?_
        refine Tr.region_f (fun _ => false) ?_
        refine W.q rfl rfl rfl rfl (by decide) (Yd.mv rfl (.t rfl)) ?_
        refine W.q rfl rfl rfl rfl (by decide) (Yd.neq rfl (.t rfl) .c) ?_
        refine W.end ?_
        refine NX.sub (env' := [(0, _), (1, _), (2, _), (3, _), (9, _), (10, _), (11, _), (52, _)]) ⟨rfl, rfl, rfl, rfl, rfl, rfl, rfl, rfl, trivial⟩ ?_
        refine NX.then ?_
        refine Tr.cond (.t rfl) (fun hb => ?_) (fun hb => ?_)
        · have hr := cond_t hb hr
          refine Tr.seq ?_
          refine Tr.region_f (fun _ => false) ?_
          refine W.q rfl rfl rfl rfl (by decide) (Yd.mv rfl (.t rfl)) ?_
          refine W.q rfl rfl rfl rfl (by decide) (Yd.mv rfl (.t rfl)) ?_
          refine W.q rfl rfl rfl rfl (by decide) (Yd.eql rfl (.t rfl) (.t rfl)) ?_
          refine W.q rfl rfl rfl rfl (by decide) (Yd.mv rfl (.t rfl)) ?_
          refine W.g rfl rfl rfl rfl rfl (.t rfl _) rfl (by decide) (fun hG => Yd.mv rfl (.t rfl)) ?_
          refine W.g rfl rfl rfl rfl rfl (.t rfl _) rfl (by decide) (fun hG => Yd.lenR hu5 rfl Try.underlying30 (.g rfl hG)) ?_
          refine W.g rfl rfl rfl rfl rfl (.t rfl _) rfl (by decide) (fun hG => Yd.eql rfl (.g rfl hG) .c) ?_
          refine W.q rfl rfl rfl rfl (by decide) (Yd.and rfl (.t rfl) .c rfl rfl) ?_
          refine W.q rfl rfl rfl rfl (by decide) (Yd.as rfl (.t rfl)) ?_
          refine W.end ?_
          refine NX.sub (env' := [(8, _)]) ⟨rfl, trivial⟩ ?_
          refine NX.then ?_
          refine Tr.ret' (RT.then ?_)
          refine res1 rfl rfl ?_
          intro w hc
          cases hr
          exact ⟨rfl, (cX_le (x := ⟨m, _⟩) ⟨hsm4, [], rfl⟩ hc)⟩
        · have hr := cond_f hb hr
          refine Tr.skip' ?_
          refine NX.then ?_
          refine Tr.seq ?_
          refine Tr.seq ?_
          refine Tr.region_f (fun _ => false) ?_
          refine W.q rfl rfl rfl rfl (by decide) (Yd.mv rfl (.t rfl)) ?_
          refine W.q rfl rfl rfl rfl (by decide) (Yd.neq rfl (.t rfl) .c) ?_
          refine W.q rfl rfl rfl rfl (by decide) (Yd.mv rfl (.t rfl)) ?_
          refine W.g rfl rfl rfl rfl rfl (.t rfl _) rfl (by decide) (fun hG => Yd.mv rfl (.t rfl)) ?_
          refine W.g rfl rfl rfl rfl rfl (.t rfl _) rfl (by decide) (fun hG => Yd.lenR hu5 rfl Try.underlying30 (.g rfl hG)) ?_
          refine W.g rfl rfl rfl rfl rfl (.t rfl _) rfl (by decide) (fun hG => Yd.mv rfl (.t rfl)) ?_
          refine W.g rfl rfl rfl rfl rfl (.t rfl _) rfl (by decide) (fun hG => Yd.neq rfl (.g rfl hG) (.g rfl hG)) ?_
          refine W.q rfl rfl rfl rfl (by decide) (Yd.or rfl (.t rfl) .c rfl rfl) ?_
          refine W.end ?_
          refine NX.sub (env' := [(0, _), (1, _), (2, _), (3, _), (9, _), (68, _)]) ⟨rfl, rfl, rfl, rfl, rfl, rfl, trivial⟩ ?_
          refine NX.then ?_
          refine Tr.cond (.t rfl) (fun hb => ?_) (fun hb => ?_)
          · have hr := cond_t hb hr
            refine Tr.seq ?_
            refine Tr.region_f (fun _ => false) ?_
            refine W.q rfl rfl rfl rfl (by decide) (Yd.as rfl .c) ?_
            refine W.end ?_
            refine NX.sub (env' := [(8, _)]) ⟨rfl, trivial⟩ ?_
            refine NX.then ?_
            refine Tr.ret' (RT.then ?_)
            refine res1 rfl rfl ?_
            intro w hc
            cases hr
            exact ⟨rfl, (cX_le (x := ⟨m, _⟩) ⟨hsm4, [], rfl⟩ hc)⟩
          · have hr := cond_f hb hr
            refine Tr.skip' ?_
            refine NX.then ?_
            refine Tr.seq ?_
            refine Tr.region_f (fun _ => false) ?_
            refine W.q rfl rfl rfl rfl (by decide) (Yd.mv rfl (.t rfl)) ?_
            refine W.q rfl rfl rfl rfl (by decide) (Yd.as rfl (.t rfl)) ?_
            refine W.end ?_
            refine NX.sub (env' := [(0, _), (1, _), (3, _), (9, _), (12, _)]) ⟨rfl, rfl, rfl, rfl, rfl, trivial⟩ ?_
            refine NX.then ?_
            refine Tr.seq ?_
            refine Tr.seq ?_
            refine Tr.region_f (fun _ => false) ?_
            refine W.q rfl rfl rfl rfl (by decide) (Yd.mv rfl (.t rfl)) ?_
            refine W.q rfl rfl rfl rfl (by decide) (Yd.lenR hdice_3 rfl Try.underlying39 (.t rfl)) ?_
            refine W.q rfl rfl rfl rfl (by decide) (Yd.mv rfl .c) ?_
            refine W.end ?_
            refine NX.sub (env' := [(0, _), (1, _), (3, _), (9, _), (12, _), (70, _), (71, _), (72, _)]) ⟨rfl, rfl, rfl, rfl, rfl, rfl, rfl, rfl, trivial⟩ ?_
            refine NX.then ?_
            refine Tr.join (S := fun env x => ∃ last_94 : BitVec 8, env = [(0, .int .i64 n_0), (1, usets_1), (3, udice_3), (9, u3), (12, .int .u8 (last_94.toNat : Int))] ∧ x = ⟨m4, l⟩ ∧ syllogistlaw_ShareDeals_k95 n_0 sets_1 dice_3 r1 last_94 = some r) ?_ (fun hk96 => ?_)
            · rintro _ _ ⟨last_94, rfl, rfl, hr⟩
              unfold syllogistlaw_ShareDeals_k95 at hr
              try dsimp only at hr
              refine NX.then ?_
              refine Tr.seq ?_
              refine Tr.seq ?_
              refine Tr.region_f (fun _ => false) ?_
              refine W.q rfl rfl rfl rfl (by decide) (Yd.as rfl .c) ?_
              refine W.end ?_
              refine NX.sub (env' := [(0, _), (1, _), (3, _), (9, _), (12, _), (15, _)]) ⟨rfl, rfl, rfl, rfl, rfl, rfl, trivial⟩ ?_
              refine NX.then ?_
              refine Tr.join (S := fun env x => env = [] ∧ x = ⟨m4, l⟩ ∧ syllogistlaw_ShareDeals_k99 = some r) ?_ (fun hk100 => ?_)
              · rintro _ _ ⟨rfl, rfl, hr⟩
                unfold syllogistlaw_ShareDeals_k99 at hr
                try dsimp only at hr
                refine NX.then ?_
                refine Tr.seq ?_
                refine Tr.region_f (fun _ => false) ?_
                refine W.q rfl rfl rfl rfl (by decide) (Yd.as rfl .c) ?_
                refine W.end ?_
                refine NX.sub (env' := [(8, _)]) ⟨rfl, trivial⟩ ?_
                refine NX.then ?_
                refine Tr.ret' ?_
                refine res1 rfl rfl ?_
                intro w hc
                cases hr
                exact ⟨rfl, (cX_le (x := ⟨m, _⟩) ⟨hsm4, [], rfl⟩ hc)⟩
              obtain ⟨hle101, hr⟩ := guard_some hr; replace hle101 := of_decide_eq_true hle101
              refine Tr.block ?_
              refine Tr.sub (env' := [(0, _), (1, _), (3, _), (9, _), (12, _), (15, _)]) ⟨rfl, rfl, rfl, rfl, rfl, rfl, trivial⟩ ?_
              refine Tr.loop (S := fun n (z : Int × Unit) env x => match z with | (i_102, _) => env = [(0, .int .i64 n_0), (1, usets_1), (3, udice_3), (9, u3), (12, .int .u8 (last_94.toNat : Int)), (15, .int .i64 i_102)] ∧ x = ⟨m4, l⟩ ∧ n = (n_0 - i_102).toNat ∧ 0 ≤ i_102 ∧ forK (σ := Unit) (fun i s nx_ => syllogistlaw_ShareDeals_b103 n_0 sets_1 dice_3 r1 last_94 i nx_) (fun _ => syllogistlaw_ShareDeals_k99) n i_102 () = some r) _ ((0 : Int), ()) ⟨rfl, rfl, rfl, (by omega), hr⟩ ?_
              rintro n105 ⟨i_102, _⟩ env x ⟨rfl, rfl, hni_102, h0i_102, hr⟩
              cases n105 with
              | zero =>
                simp only [forK] at hr
                refine Tr.seq ?_
                refine Tr.seq ?_
                refine Tr.region_f (fun _ => false) ?_
                refine W.q rfl rfl rfl rfl (by decide) (Yd.mv rfl (.t rfl)) ?_
                refine W.q rfl rfl rfl rfl (by decide) (Yd.mv rfl (.t rfl)) ?_
                refine W.q rfl rfl rfl rfl (by decide) (Yd.lss rfl (.t rfl) (.t rfl)) ?_
                refine W.end ?_
                refine NX.sub (env' := [(0, _), (1, _), (3, _), (9, _), (12, _), (15, _), (82, _)]) ⟨rfl, rfl, rfl, rfl, rfl, rfl, rfl, trivial⟩ ?_
                refine NX.then ?_
                refine Tr.cond (.t rfl) (fun hb => ?_) (fun hb => ?_)
                · exact absurd (hb.symm.trans (fr_end hni_102)) (by decide)
                ·
                  refine Tr.exit' (EX.then (EX.then (EX.block ?_)))
                  refine NX.sub (env' := []) trivial ?_
                  exact hk100 _ _ ⟨rfl, rfl, hr⟩
              | succ n105 =>
                obtain ⟨nx104, hnx104, hr⟩ := forK_succ hr
                try dsimp only at hr
                unfold syllogistlaw_ShareDeals_b103 at hr
                try dsimp only at hr
                have hlti_102 := fr_bnd hni_102
                refine Tr.seq ?_
                refine Tr.seq ?_
                refine Tr.region_f (fun _ => false) ?_
                refine W.q rfl rfl rfl rfl (by decide) (Yd.mv rfl (.t rfl)) ?_
                refine W.q rfl rfl rfl rfl (by decide) (Yd.mv rfl (.t rfl)) ?_
                refine W.q rfl rfl rfl rfl (by decide) (Yd.lss rfl (.t rfl) (.t rfl)) ?_
                refine W.end ?_
                refine NX.sub (env' := [(0, _), (1, _), (3, _), (9, _), (12, _), (15, _), (82, _)]) ⟨rfl, rfl, rfl, rfl, rfl, rfl, rfl, trivial⟩ ?_
                refine NX.then ?_
                refine Tr.cond (.t rfl) (fun hb => ?_) (fun hb => ?_)
                rotate_left
                · exact absurd (hb.symm.trans (fr_go hni_102)) (by decide)
                ·
                  refine Tr.skip' ?_
                  refine NX.then ?_
                  refine Tr.seq ?_
                  refine Tr.block ?_
                  refine Tr.seq ?_
                  refine Tr.region_f (fun _ => false) ?_
                  refine W.q rfl rfl rfl rfl (by decide) (Yd.as rfl .c) ?_
                  refine W.end ?_
                  refine NX.sub (env' := [(0, _), (1, _), (3, _), (9, _), (12, _), (15, _), (16, _)]) ⟨rfl, rfl, rfl, rfl, rfl, rfl, rfl, trivial⟩ ?_
                  refine NX.then ?_
                  refine Tr.seq ?_
                  refine Tr.seq ?_
                  obtain ⟨r106, hr107, hr⟩ := bind_some hr
                  refine Tr.region_f (fun i => Nat.beq i 2) ?_
                  refine W.q rfl rfl rfl rfl (by decide) (Yd.mv rfl (.t rfl)) ?_
                  refine W.q rfl rfl rfl rfl (by decide) (Yd.mv rfl (.t rfl)) ?_
                  refine W.e rfl rfl rfl rfl (by decide) (Ef.call (R := fun z x' => ∃ v108 : Value, z = v108 ∧ x' = ⟨m4, hownT 31 1 encU v108 r106 :: l⟩) rfl Try.func10 rfl rfl (.cons (.t rfl) (.cons (.t rfl) .nil)) (fun w hw => (syllogistref_MostLost_ok w0 _ _ n_0 _ _ hsets_1 _ hr107 w hw).mono fun e w' ⟨v108, he, hc'⟩ => ⟨_, _, he, ⟨v108, rfl, rfl⟩, hc'⟩)) ?_
                  rintro v108 _ ⟨_, rfl, rfl⟩
                  refine ⟨.inl rfl, ?_⟩
                  refine W.cast (m' := m4) (l' := hownT 31 1 encU v108 _ :: l) rfl rfl ?_
                  refine W.q rfl rfl rfl rfl (by decide) (Yd.lenO (p := 0) rfl rfl Try.underlying22 (.t rfl)) ?_
                  refine W.q rfl rfl rfl rfl (by decide) (Yd.mv rfl .c) ?_
                  refine W.end ?_
                  refine NX.sub (env' := [(0, _), (1, _), (3, _), (9, _), (12, _), (15, _), (16, _), (87, _), (88, _), (89, _)]) ⟨rfl, rfl, rfl, rfl, rfl, rfl, rfl, rfl, rfl, rfl, trivial⟩ ?_
                  refine NX.then ?_
                  refine Tr.addnil 3 1 ?_
                  refine Tr.join (S := fun env x => ∃ l117 : List Int, ∃ v118 : Value, env = [(0, .int .i64 n_0), (1, usets_1), (3, udice_3), (9, u3), (12, .int .u8 (last_94.toNat : Int)), (15, .int .i64 i_102), (16, v118)] ∧ x = ⟨m4, hownT 3 1 encI v118 l117 :: l⟩ ∧ syllogistlaw_ShareDeals_k119 r1 i_102 nx104 l117 = some r) ?_ (fun hk120 => ?_)
                  · rintro _ _ ⟨l117, v118, rfl, rfl, hr⟩
                    unfold syllogistlaw_ShareDeals_k119 at hr
                    try dsimp only at hr
                    refine NX.then ?_
                    refine Tr.seq ?_
                    obtain ⟨y121, hy122, hr⟩ := bind_some hr
                    obtain ⟨r126, hr127, hr⟩ := bind_some hr
                    refine Tr.region_f (fun _ => false) ?_
                    refine W.q rfl rfl rfl rfl (by decide) (Yd.mv rfl (.t rfl)) ?_
                    refine W.q rfl rfl rfl rfl (by decide) (Yd.mv rfl (.t rfl)) ?_
                    refine W.q rfl rfl rfl rfl (by decide) (Yd.idxR hu5 hy122 rfl Try.underlying30 SZ34 (.t rfl) (.t rfl)) ?_
                    obtain ⟨u123, hu124, hat125⟩ := hu5.row hy122
                    refine W.q rfl rfl rfl rfl (by decide) (Yd.ldRow hat125 (.refl _) rfl ON34 (.t rfl)) ?_
                    refine W.q rfl rfl rfl rfl (by decide) (Yd.mv rfl (.t rfl)) ?_
                    refine W.q rfl rfl rfl rfl (by decide) (Yd.call (v := .bool r126) rfl Try.func17 rfl rfl (.cons (.t rfl) (.cons (.t rfl) .nil)) (by intro x' hx w hw; obtain ⟨p0, hp0⟩ := hx.at (p := 0) rfl; obtain ⟨m2, hm2, hc2, ⟨L2, hl1, hl2⟩, hback⟩ := cX_lend hw hp0 lone_own; have hL1 : RS rI m2 _ _ := RS_of_own hl1 hl2; exact (syllogistref_Ints_ok w0 m2 _ _ _ (hu124.mono (hx.1.trans hm2)) _ _ hL1 _ hr127 w hc2).mono fun e w' ⟨he, hc'⟩ => ⟨he, (hback m2 _ _ w' (.refl _) hp0).2 hc'⟩)) ?_
                    refine W.q rfl rfl rfl rfl (by decide) (Yd.not rfl (.t rfl)) ?_
                    refine W.end ?_
                    refine NX.sub (env' := [(0, _), (1, _), (3, _), (9, _), (12, _), (15, _), (119, _)]) ⟨rfl, rfl, rfl, rfl, rfl, rfl, rfl, trivial⟩ ?_
                    refine NX.drop (l' := l) (.cons _ (.refl _)) ?_
                    refine NX.then ?_
                    refine Tr.cond (.t rfl) (fun hb => ?_) (fun hb => ?_)
                    · have hr := cond_t hb hr
                      refine Tr.seq ?_
                      refine Tr.region_f (fun _ => false) ?_
                      refine W.q rfl rfl rfl rfl (by decide) (Yd.as rfl .c) ?_
                      refine W.end ?_
                      refine NX.sub (env' := [(8, _)]) ⟨rfl, trivial⟩ ?_
                      refine NX.then ?_
                      refine Tr.ret' (RT.block (RT.then (RT.then (RT.block (RT.then ?_)))))
                      refine res1 rfl rfl ?_
                      intro w hc
                      cases hr
                      exact ⟨rfl, (cX_le (x := ⟨m, _⟩) ⟨hsm4, [], rfl⟩ hc)⟩
                    · have hr := cond_f hb hr
                      refine Tr.skip' ?_
                      refine NX.block ?_
                      refine NX.then ?_
                      refine Tr.region_f (fun _ => false) ?_
                      refine W.q rfl rfl rfl rfl (by decide) (Yd.mv rfl (.t rfl)) ?_
                      refine W.q rfl rfl rfl rfl (by decide) (Yd.add rfl (.t rfl) .c) ?_
                      refine W.q rfl rfl rfl rfl (by decide) (Yd.as rfl (.t rfl)) ?_
                      refine W.end ?_
                      refine NX.sub (env' := [(0, _), (1, _), (3, _), (9, _), (12, _), (15, _)]) ⟨rfl, rfl, rfl, rfl, rfl, rfl, trivial⟩ ?_
                      refine NX.sub (env' := [(0, _), (1, _), (3, _), (9, _), (12, _), (15, _)]) ⟨rfl, rfl, rfl, rfl, rfl, rfl, trivial⟩ ?_
                      have hw := w64_id (n := i_102 + 1) (by omega) (by omega)
                      exact NX.again n105 (i_102 + 1, ()) (Nat.lt_succ_self _) ⟨(by rw [hw] <;> rfl), rfl, (fr_dec hni_102), (by omega), ((hnx104 _).symm.trans hr)⟩
                  refine Tr.lenO (pos := 1) rfl (fun hlen128 => ?_)
                  refine Tr.block ?_
                  refine Tr.sub (env' := [(0, _), (1, _), (3, _), (9, _), (12, _), (15, _), (16, _), (87, _), (88, _), (89, _)]) ⟨rfl, rfl, rfl, rfl, rfl, rfl, rfl, rfl, rfl, rfl, trivial⟩ ?_
                  refine Tr.loop (S := fun n (z : Int × (List Int)) env x => match z with | (t_129, l115) => ∃ v116 : Value, env = [(0, .int .i64 n_0), (1, usets_1), (3, udice_3), (9, u3), (12, .int .u8 (last_94.toNat : Int)), (15, .int .i64 i_102), (16, v116), (87, v108), (88, .int .i64 ((r106.length : Int))), (89, .int .i64 t_129)] ∧ x = ⟨m4, hownT 3 1 encI v116 l115 :: hownT 31 1 encU v108 r106 :: l⟩ ∧ n = ((r106.length : Int) - t_129).toNat ∧ 0 ≤ t_129 ∧ forK (σ := (List Int)) (fun i s nx_ => syllogistlaw_ShareDeals_b130 dice_3 last_94 i_102 r106 i s nx_) (fun s => syllogistlaw_ShareDeals_k119 r1 i_102 nx104 s) n t_129 l115 = some r) _ ((0 : Int), ([] : List Int)) ⟨_, rfl, rfl, rfl, (by omega), hr⟩ ?_
                  rintro n132 ⟨t_129, l115⟩ env x ⟨v116, rfl, rfl, hnt_129, h0t_129, hr⟩
                  cases n132 with
                  | zero =>
                    simp only [forK] at hr
                    refine Tr.seq ?_
                    refine Tr.region_f (fun _ => false) ?_
                    refine W.q rfl rfl rfl rfl (by decide) (Yd.lss rfl (.t rfl) (.t rfl)) ?_
                    refine W.end ?_
                    refine NX.sub (env' := [(0, _), (1, _), (3, _), (9, _), (12, _), (15, _), (16, _), (87, _), (88, _), (89, _), (90, _)]) ⟨rfl, rfl, rfl, rfl, rfl, rfl, rfl, rfl, rfl, rfl, rfl, trivial⟩ ?_
                    refine NX.then ?_
                    refine Tr.seq ?_
                    refine Tr.cond (.t rfl) (fun hb => ?_) (fun hb => ?_)
                    · exact absurd (hb.symm.trans (fr_end hnt_129)) (by decide)
                    ·
                      refine Tr.exit' (EX.then (EX.then (EX.block ?_)))
                      refine NX.sub (env' := [(0, _), (1, _), (3, _), (9, _), (12, _), (15, _), (16, _)]) ⟨rfl, rfl, rfl, rfl, rfl, rfl, rfl, trivial⟩ ?_
                      refine NX.drop (l' := hownT 3 1 encI v116 _ :: l) (.cons_cons _ (.cons _ (.refl _))) ?_
                      exact hk120 _ _ ⟨_, _, rfl, rfl, hr⟩
                  | succ n132 =>
                    obtain ⟨nx131, hnx131, hr⟩ := forK_succ hr
                    try dsimp only at hr
                    unfold syllogistlaw_ShareDeals_b130 at hr
                    try dsimp only at hr
                    have hltt_129 := fr_bnd hnt_129
                    refine Tr.seq ?_
                    refine Tr.region_f (fun _ => false) ?_
                    refine W.q rfl rfl rfl rfl (by decide) (Yd.lss rfl (.t rfl) (.t rfl)) ?_
                    refine W.end ?_
                    refine NX.sub (env' := [(0, _), (1, _), (3, _), (9, _), (12, _), (15, _), (16, _), (87, _), (88, _), (89, _), (90, _)]) ⟨rfl, rfl, rfl, rfl, rfl, rfl, rfl, rfl, rfl, rfl, rfl, trivial⟩ ?_
                    refine NX.then ?_
                    refine Tr.seq ?_
                    refine Tr.cond (.t rfl) (fun hb => ?_) (fun hb => ?_)
                    rotate_left
                    · exact absurd (hb.symm.trans (fr_go hnt_129)) (by decide)
                    ·
                      refine Tr.skip' ?_
                      refine NX.then ?_
                      refine Tr.seq ?_
                      refine Tr.block ?_
                      refine Tr.seq ?_
                      obtain ⟨y133, hy134, hr⟩ := bind_some hr
                      refine Tr.region_f (fun _ => false) ?_
                      refine W.q rfl rfl rfl rfl (by decide) (Yd.mv rfl (.t rfl)) ?_
                      refine W.q rfl rfl rfl rfl (by decide) (Yd.idxT (pos := 1) rfl hy134 rfl Try.underlying22 SZ31 (.t rfl) (.t rfl)) ?_
                      refine W.q rfl rfl rfl rfl (by decide) (Yd.ldT (enc := encU) (n := 1) (pos := 1) (fun _ => rfl) rfl hy134 rfl rfl ON31 (.t rfl)) ?_
                      refine W.q rfl rfl rfl rfl (by decide) (Yd.as rfl (.t rfl)) ?_
                      refine W.q rfl rfl rfl rfl (by decide) (Yd.as rfl (.t rfl)) ?_
                      refine W.end ?_
                      refine NX.sub (env' := [(0, _), (1, _), (3, _), (9, _), (12, _), (15, _), (16, _), (87, _), (88, _), (89, _), (17, _), (18, _)]) ⟨rfl, rfl, rfl, rfl, rfl, rfl, rfl, rfl, rfl, rfl, rfl, rfl, trivial⟩ ?_
                      refine NX.then ?_
                      refine Tr.seq ?_
                      refine Tr.region_f (fun _ => false) ?_
                      refine W.q rfl rfl rfl rfl (by decide) (Yd.mv rfl (.t rfl)) ?_
                      refine W.q rfl rfl rfl rfl (by decide) (Yd.cvBI (a := last_94) rfl US5 Try.underlying3 (.t rfl)) ?_
                      refine W.q rfl rfl rfl rfl (by decide) (Yd.as rfl (.t rfl)) ?_
                      refine W.end ?_
                      refine NX.sub (env' := [(0, _), (1, _), (3, _), (9, _), (12, _), (15, _), (16, _), (87, _), (88, _), (89, _), (17, _), (18, _), (19, _)]) ⟨rfl, rfl, rfl, rfl, rfl, rfl, rfl, rfl, rfl, rfl, rfl, rfl, rfl, trivial⟩ ?_
                      refine NX.then ?_
                      refine Tr.seq ?_
                      refine Tr.seq ?_
                      refine Tr.region_f (fun _ => false) ?_
                      refine W.q rfl rfl rfl rfl (by decide) (Yd.mv rfl (.t rfl)) ?_
                      refine W.q rfl rfl rfl rfl (by decide) (Yd.mv rfl (.t rfl)) ?_
                      refine W.q rfl rfl rfl rfl (by decide) (Yd.lenR hdice_3 rfl Try.underlying39 (.t rfl)) ?_
                      refine W.q rfl rfl rfl rfl (by decide) (Yd.lss rfl (.t rfl) (.t rfl)) ?_
                      refine W.end ?_
                      refine NX.sub (env' := [(0, _), (1, _), (3, _), (9, _), (12, _), (15, _), (16, _), (87, _), (88, _), (89, _), (17, _), (18, _), (19, _), (99, _)]) ⟨rfl, rfl, rfl, rfl, rfl, rfl, rfl, rfl, rfl, rfl, rfl, rfl, rfl, rfl, trivial⟩ ?_
                      refine NX.then ?_
                      refine Tr.join (S := fun env x => ∃ part_135 : Int, env = [(0, .int .i64 n_0), (1, usets_1), (3, udice_3), (9, u3), (12, .int .u8 (last_94.toNat : Int)), (15, .int .i64 i_102), (16, v116), (87, v108), (88, .int .i64 ((r106.length : Int))), (89, .int .i64 t_129), (18, .int .u32 (y133.toNat : Int)), (19, .int .i64 part_135)] ∧ x = ⟨m4, hownT 3 1 encI v116 l115 :: hownT 31 1 encU v108 r106 :: l⟩ ∧ syllogistlaw_ShareDeals_k136 i_102 l115 nx131 y133 part_135 = some r) ?_ (fun hk137 => ?_)
                      · rintro _ _ ⟨part_135, rfl, rfl, hr⟩
                        unfold syllogistlaw_ShareDeals_k136 at hr
                        try dsimp only at hr
                        refine NX.then ?_
                        refine Tr.seq ?_
                        refine Tr.seq ?_
                        obtain ⟨r138, hr139, hr⟩ := bind_some hr
                        refine Tr.region_f (fun _ => false) ?_
                        refine W.q rfl rfl rfl rfl (by decide) (Yd.mv rfl (.t rfl)) ?_
                        refine W.q rfl rfl rfl rfl (by decide) (Yd.mv rfl (.t rfl)) ?_
                        refine W.q rfl rfl rfl rfl (by decide) (Yd.call (v := .bool r138) rfl Try.func16 rfl rfl (.cons (.t rfl) (.cons (.t rfl) .nil)) (fun x' hx w hw => syllogistref_Bit_ok w0 x'.m x'.l y133 i_102 _ hr139 w hw)) ?_
                        refine W.end ?_
                        refine NX.sub (env' := [(0, _), (1, _), (3, _), (9, _), (12, _), (15, _), (16, _), (87, _), (88, _), (89, _), (19, _), (107, _)]) ⟨rfl, rfl, rfl, rfl, rfl, rfl, rfl, rfl, rfl, rfl, rfl, rfl, trivial⟩ ?_
                        refine NX.then ?_
                        refine Tr.cond (.t rfl) (fun hb => ?_) (fun hb => ?_)
                        · have hr := cond_t hb hr
                          refine Tr.region_f (fun _ => false) ?_
                          refine W.q rfl rfl rfl rfl (by decide) (Yd.as rfl .c) ?_
                          refine W.end ?_
                          refine NX.sub (env' := [(0, _), (1, _), (3, _), (9, _), (12, _), (15, _), (16, _), (87, _), (88, _), (89, _), (19, _)]) ⟨rfl, rfl, rfl, rfl, rfl, rfl, rfl, rfl, rfl, rfl, rfl, trivial⟩ ?_
                          refine NX.then ?_
                          obtain ⟨hq143, hr⟩ := guard_some hr; replace hq143 := of_decide_eq_true hq143
                          refine Tr.region_f (fun i => Nat.beq i 2 || Nat.beq i 3) ?_
                          refine W.q rfl rfl rfl rfl (by decide) (Yd.mv rfl (.t rfl)) ?_
                          refine W.q rfl rfl rfl rfl (by decide) (Yd.mv rfl (.t rfl)) ?_
                          refine W.e rfl rfl rfl rfl (by decide) (Ef.bsT (enc := encI) (vs := [_]) (ys := [(-1 : Int)]) (fun _ => rfl) IF3 rfl Try.underlying34 (by decide) rfl (.cons (.t rfl) .nil) rfl rfl (by decide)) ?_
                          rintro v140 _ rfl
                          refine ⟨.inl rfl, ?_⟩
                          refine W.cast (m' := m4) (l' := hownT 3 1 encI v140 _ :: hownT 3 1 encI v116 _ :: hownT 31 1 encU v108 _ :: l) rfl rfl ?_
                          refine W.e rfl rfl rfl rfl (by decide) (Ef.apI (pos := 1) (enc := encI) (xs := l115) (ys := ([(-1 : Int)] : List Int)) (fun _ => rfl) IF3 rfl rfl Try.underlying34 rfl (by decide) (.t rfl) (.t rfl) (Src.own (pos := 0) rfl) (fun _ => rfl) (by omega) (by omega)) ?_
                          rintro v142 _ rfl
                          refine ⟨.inl rfl, ?_⟩
                          refine W.cast (m' := m4) (l' := hownT 3 1 encI v140 _ :: hownT 3 1 encI v142 _ :: hownT 31 1 encU v108 _ :: l) rfl rfl ?_
                          refine W.q rfl rfl rfl rfl (by decide) (Yd.as rfl (.t rfl)) ?_
                          refine W.end ?_
                          refine NX.sub (env' := [(0, _), (1, _), (3, _), (9, _), (12, _), (15, _), (16, _), (87, _), (88, _), (89, _)]) ⟨rfl, rfl, rfl, rfl, rfl, rfl, rfl, rfl, rfl, rfl, trivial⟩ ?_
                          refine NX.drop (l' := hownT 3 1 encI v142 _ :: hownT 31 1 encU v108 _ :: l) (.cons _ (.cons_cons _ (.cons_cons _ (.refl _)))) ?_
                          refine NX.block ?_
                          refine NX.then ?_
                          refine Tr.region_f (fun _ => false) ?_
                          refine W.q rfl rfl rfl rfl (by decide) (Yd.add rfl (.t rfl) .c) ?_
                          refine W.q rfl rfl rfl rfl (by decide) (Yd.mv rfl (.t rfl)) ?_
                          refine W.end ?_
                          refine NX.sub (env' := [(0, _), (1, _), (3, _), (9, _), (12, _), (15, _), (16, _), (87, _), (88, _), (89, _)]) ⟨rfl, rfl, rfl, rfl, rfl, rfl, rfl, rfl, rfl, rfl, trivial⟩ ?_
                          refine NX.sub (env' := [(0, _), (1, _), (3, _), (9, _), (12, _), (15, _), (16, _), (87, _), (88, _), (89, _)]) ⟨rfl, rfl, rfl, rfl, rfl, rfl, rfl, rfl, rfl, rfl, trivial⟩ ?_
                          have hw := w64_id (n := t_129 + 1) (by omega) (by omega)
                          exact NX.again n132 (t_129 + 1, (l115 ++ ([(-1 : Int)] : List Int))) (Nat.lt_succ_self _) ⟨_, (by rw [hw] <;> rfl), rfl, (fr_dec hnt_129), (by omega), ((hnx131 _).symm.trans hr)⟩
                        · have hr := cond_f hb hr
                          refine Tr.skip' ?_
                          refine NX.then ?_
                          obtain ⟨hq147, hr⟩ := guard_some hr; replace hq147 := of_decide_eq_true hq147
                          refine Tr.region_f (fun i => Nat.beq i 2 || Nat.beq i 3) ?_
                          refine W.q rfl rfl rfl rfl (by decide) (Yd.mv rfl (.t rfl)) ?_
                          refine W.q rfl rfl rfl rfl (by decide) (Yd.mv rfl (.t rfl)) ?_
                          refine W.e rfl rfl rfl rfl (by decide) (Ef.bsT (enc := encI) (vs := [_]) (ys := [part_135]) (fun _ => rfl) IF3 rfl Try.underlying34 (by decide) rfl (.cons (.t rfl) .nil) rfl rfl (by decide)) ?_
                          rintro v144 _ rfl
                          refine ⟨.inl rfl, ?_⟩
                          refine W.cast (m' := m4) (l' := hownT 3 1 encI v144 _ :: hownT 3 1 encI v116 _ :: hownT 31 1 encU v108 _ :: l) rfl rfl ?_
                          refine W.e rfl rfl rfl rfl (by decide) (Ef.apI (pos := 1) (enc := encI) (xs := l115) (ys := ([part_135] : List Int)) (fun _ => rfl) IF3 rfl rfl Try.underlying34 rfl (by decide) (.t rfl) (.t rfl) (Src.own (pos := 0) rfl) (fun _ => rfl) (by omega) (by omega)) ?_
                          rintro v146 _ rfl
                          refine ⟨.inl rfl, ?_⟩
                          refine W.cast (m' := m4) (l' := hownT 3 1 encI v144 _ :: hownT 3 1 encI v146 _ :: hownT 31 1 encU v108 _ :: l) rfl rfl ?_
                          refine W.q rfl rfl rfl rfl (by decide) (Yd.as rfl (.t rfl)) ?_
                          refine W.end ?_
                          refine NX.sub (env' := [(0, _), (1, _), (3, _), (9, _), (12, _), (15, _), (16, _), (87, _), (88, _), (89, _)]) ⟨rfl, rfl, rfl, rfl, rfl, rfl, rfl, rfl, rfl, rfl, trivial⟩ ?_
                          refine NX.drop (l' := hownT 3 1 encI v146 _ :: hownT 31 1 encU v108 _ :: l) (.cons _ (.cons_cons _ (.cons_cons _ (.refl _)))) ?_
                          refine NX.block ?_
                          refine NX.then ?_
                          refine Tr.region_f (fun _ => false) ?_
                          refine W.q rfl rfl rfl rfl (by decide) (Yd.add rfl (.t rfl) .c) ?_
                          refine W.q rfl rfl rfl rfl (by decide) (Yd.mv rfl (.t rfl)) ?_
                          refine W.end ?_
                          refine NX.sub (env' := [(0, _), (1, _), (3, _), (9, _), (12, _), (15, _), (16, _), (87, _), (88, _), (89, _)]) ⟨rfl, rfl, rfl, rfl, rfl, rfl, rfl, rfl, rfl, rfl, trivial⟩ ?_
                          refine NX.sub (env' := [(0, _), (1, _), (3, _), (9, _), (12, _), (15, _), (16, _), (87, _), (88, _), (89, _)]) ⟨rfl, rfl, rfl, rfl, rfl, rfl, rfl, rfl, rfl, rfl, trivial⟩ ?_
                          have hw := w64_id (n := t_129 + 1) (by omega) (by omega)
                          exact NX.again n132 (t_129 + 1, (l115 ++ ([part_135] : List Int))) (Nat.lt_succ_self _) ⟨_, (by rw [hw] <;> rfl), rfl, (fr_dec hnt_129), (by omega), ((hnx131 _).symm.trans hr)⟩
                      refine Tr.cond (.t rfl) (fun hb => ?_) (fun hb => ?_)
                      · have hr := cond_t hb hr
                        obtain ⟨y148, hy149, hr⟩ := bind_some hr
                        refine Tr.region_f (fun _ => false) ?_
                        refine W.q rfl rfl rfl rfl (by decide) (Yd.mv rfl (.t rfl)) ?_
                        refine W.q rfl rfl rfl rfl (by decide) (Yd.mv rfl (.t rfl)) ?_
                        refine W.q rfl rfl rfl rfl (by decide) (Yd.idxR hdice_3 hy149 rfl Try.underlying39 SZ5 (.t rfl) (.t rfl)) ?_
                        refine W.q rfl rfl rfl rfl (by decide) (Yd.ldF hdice_3 (.refl _) hy149 rfl rfl ON5 (.t rfl)) ?_
                        refine W.q rfl rfl rfl rfl (by decide) (Yd.cvBI (a := y148) rfl US5 Try.underlying3 (.t rfl)) ?_
                        refine W.q rfl rfl rfl rfl (by decide) (Yd.as rfl (.t rfl)) ?_
                        refine W.end ?_
                        refine NX.sub (env' := [(0, _), (1, _), (3, _), (9, _), (12, _), (15, _), (16, _), (87, _), (88, _), (89, _), (18, _), (19, _)]) ⟨rfl, rfl, rfl, rfl, rfl, rfl, rfl, rfl, rfl, rfl, rfl, rfl, trivial⟩ ?_
                        refine NX.sub (env' := [(0, _), (1, _), (3, _), (9, _), (12, _), (15, _), (16, _), (87, _), (88, _), (89, _), (18, _), (19, _)]) ⟨rfl, rfl, rfl, rfl, rfl, rfl, rfl, rfl, rfl, rfl, rfl, rfl, trivial⟩ ?_
                        exact hk137 _ _ ⟨_, rfl, rfl, hr⟩
                      · have hr := cond_f hb hr
                        refine Tr.skip' ?_
                        refine NX.sub (env' := [(0, _), (1, _), (3, _), (9, _), (12, _), (15, _), (16, _), (87, _), (88, _), (89, _), (18, _), (19, _)]) ⟨rfl, rfl, rfl, rfl, rfl, rfl, rfl, rfl, rfl, rfl, rfl, rfl, trivial⟩ ?_
                        exact hk137 _ _ ⟨_, rfl, rfl, hr⟩
            have hlen150 := (hdice_3).2.1
            refine Tr.block ?_
            refine Tr.sub (env' := [(0, _), (1, _), (3, _), (9, _), (12, _), (70, _), (71, _), (72, _)]) ⟨rfl, rfl, rfl, rfl, rfl, rfl, rfl, rfl, trivial⟩ ?_
            refine Tr.loop (S := fun n (z : Int × (BitVec 8)) env x => match z with | (t_151, last_92) => env = [(0, .int .i64 n_0), (1, usets_1), (3, udice_3), (9, u3), (12, .int .u8 (last_92.toNat : Int)), (70, udice_3), (71, .int .i64 ((dice_3.length : Int))), (72, .int .i64 t_151)] ∧ x = ⟨m4, l⟩ ∧ n = ((dice_3.length : Int) - t_151).toNat ∧ 0 ≤ t_151 ∧ forK (σ := (BitVec 8)) (fun i s nx_ => syllogistlaw_ShareDeals_b152 dice_3 i s nx_) (fun s => syllogistlaw_ShareDeals_k95 n_0 sets_1 dice_3 r1 s) n t_151 last_92 = some r) _ ((0 : Int), secret_2) ⟨rfl, rfl, rfl, (by omega), hr⟩ ?_
            rintro n154 ⟨t_151, last_92⟩ env x ⟨rfl, rfl, hnt_151, h0t_151, hr⟩
            cases n154 with
            | zero =>
              simp only [forK] at hr
              refine Tr.seq ?_
              refine Tr.region_f (fun _ => false) ?_
              refine W.q rfl rfl rfl rfl (by decide) (Yd.lss rfl (.t rfl) (.t rfl)) ?_
              refine W.end ?_
              refine NX.sub (env' := [(0, _), (1, _), (3, _), (9, _), (12, _), (70, _), (71, _), (72, _), (73, _)]) ⟨rfl, rfl, rfl, rfl, rfl, rfl, rfl, rfl, rfl, trivial⟩ ?_
              refine NX.then ?_
              refine Tr.seq ?_
              refine Tr.cond (.t rfl) (fun hb => ?_) (fun hb => ?_)
              · exact absurd (hb.symm.trans (fr_end hnt_151)) (by decide)
              ·
                refine Tr.exit' (EX.then (EX.then (EX.block ?_)))
                refine NX.sub (env' := [(0, _), (1, _), (3, _), (9, _), (12, _)]) ⟨rfl, rfl, rfl, rfl, rfl, trivial⟩ ?_
                exact hk96 _ _ ⟨_, rfl, rfl, hr⟩
            | succ n154 =>
              obtain ⟨nx153, hnx153, hr⟩ := forK_succ hr
              try dsimp only at hr
              unfold syllogistlaw_ShareDeals_b152 at hr
              try dsimp only at hr
              have hltt_151 := fr_bnd hnt_151
              refine Tr.seq ?_
              refine Tr.region_f (fun _ => false) ?_
              refine W.q rfl rfl rfl rfl (by decide) (Yd.lss rfl (.t rfl) (.t rfl)) ?_
              refine W.end ?_
              refine NX.sub (env' := [(0, _), (1, _), (3, _), (9, _), (12, _), (70, _), (71, _), (72, _), (73, _)]) ⟨rfl, rfl, rfl, rfl, rfl, rfl, rfl, rfl, rfl, trivial⟩ ?_
              refine NX.then ?_
              refine Tr.seq ?_
              refine Tr.cond (.t rfl) (fun hb => ?_) (fun hb => ?_)
              rotate_left
              · exact absurd (hb.symm.trans (fr_go hnt_151)) (by decide)
              ·
                refine Tr.skip' ?_
                refine NX.then ?_
                refine Tr.seq ?_
                refine Tr.block ?_
                refine Tr.seq ?_
                obtain ⟨y155, hy156, hr⟩ := bind_some hr
                refine Tr.region_f (fun _ => false) ?_
                refine W.q rfl rfl rfl rfl (by decide) (Yd.idxR hdice_3 hy156 rfl Try.underlying39 SZ5 (.t rfl) (.t rfl)) ?_
                refine W.q rfl rfl rfl rfl (by decide) (Yd.ldF hdice_3 (.refl _) hy156 rfl rfl ON5 (.t rfl)) ?_
                refine W.q rfl rfl rfl rfl (by decide) (Yd.as rfl (.t rfl)) ?_
                refine W.end ?_
                refine NX.sub (env' := [(0, _), (1, _), (3, _), (9, _), (12, _), (70, _), (71, _), (72, _), (14, _)]) ⟨rfl, rfl, rfl, rfl, rfl, rfl, rfl, rfl, rfl, trivial⟩ ?_
                refine NX.then ?_
                refine Tr.region_f (fun _ => false) ?_
                refine W.q rfl rfl rfl rfl (by decide) (Yd.mv rfl (.t rfl)) ?_
                refine W.q rfl rfl rfl rfl (by decide) (Yd.mv rfl (.t rfl)) ?_
                refine W.q rfl rfl rfl rfl (by decide) (Yd.xorY (a := last_92) (b := y155) rfl (.t rfl) (.t rfl)) ?_
                refine W.q rfl rfl rfl rfl (by decide) (Yd.as rfl (.t rfl)) ?_
                refine W.end ?_
                refine NX.sub (env' := [(0, _), (1, _), (3, _), (9, _), (12, _), (70, _), (71, _), (72, _)]) ⟨rfl, rfl, rfl, rfl, rfl, rfl, rfl, rfl, trivial⟩ ?_
                refine NX.block ?_
                refine NX.then ?_
                refine Tr.region_f (fun _ => false) ?_
                refine W.q rfl rfl rfl rfl (by decide) (Yd.add rfl (.t rfl) .c) ?_
                refine W.q rfl rfl rfl rfl (by decide) (Yd.mv rfl (.t rfl)) ?_
                refine W.end ?_
                refine NX.sub (env' := [(0, _), (1, _), (3, _), (9, _), (12, _), (70, _), (71, _), (72, _)]) ⟨rfl, rfl, rfl, rfl, rfl, rfl, rfl, rfl, trivial⟩ ?_
                refine NX.sub (env' := [(0, _), (1, _), (3, _), (9, _), (12, _), (70, _), (71, _), (72, _)]) ⟨rfl, rfl, rfl, rfl, rfl, rfl, rfl, rfl, trivial⟩ ?_
                have hw := w64_id (n := t_151 + 1) (by omega) (by omega)
                exact NX.again n154 (t_151 + 1, (last_92 ^^^ y155)) (Nat.lt_succ_self _) ⟨(by rw [hw] <;> rfl), rfl, (fr_dec hnt_151), (by omega), ((hnx153 _).symm.trans hr)⟩
      refine Tr.cond (.t rfl) (fun hb => ?_) (fun hb => ?_)
      · have hr := cond_t hb hr
        refine Tr.region_f (fun _ => false) ?_
        refine W.q rfl rfl rfl rfl (by decide) (Yd.as rfl .c) ?_
        refine W.end ?_
        refine NX.sub (env' := [(0, _), (1, _), (2, _), (3, _), (9, _), (10, _), (11, _)]) ⟨rfl, rfl, rfl, rfl, rfl, rfl, rfl, trivial⟩ ?_
        refine NX.sub (env' := [(0, _), (1, _), (2, _), (3, _), (9, _), (10, _), (11, _)]) ⟨rfl, rfl, rfl, rfl, rfl, rfl, rfl, trivial⟩ ?_
        exact hk89 _ _ ⟨_, rfl, rfl, hr⟩
      · have hr := cond_f hb hr
        refine Tr.skip' ?_
        refine NX.sub (env' := [(0, _), (1, _), (2, _), (3, _), (9, _), (10, _), (11, _)]) ⟨rfl, rfl, rfl, rfl, rfl, rfl, rfl, trivial⟩ ?_
        exact hk89 _ _ ⟨_, rfl, rfl, hr⟩
  refine Tr.cond (.t rfl) (fun hb => ?_) (fun hb => ?_)
  · have hr := cond_t hb hr
    refine Tr.region_f (fun _ => false) ?_
    refine W.q rfl rfl rfl rfl (by decide) (Yd.as rfl .c) ?_
    refine W.end ?_
    refine NX.sub (env' := [(0, _), (1, _), (2, _), (3, _), (9, _), (10, _), (11, _)]) ⟨rfl, rfl, rfl, rfl, rfl, rfl, rfl, trivial⟩ ?_
    refine NX.sub (env' := [(0, _), (1, _), (2, _), (3, _), (9, _), (10, _), (11, _)]) ⟨rfl, rfl, rfl, rfl, rfl, rfl, rfl, trivial⟩ ?_
    exact hk11 _ _ ⟨_, rfl, rfl, hr⟩
  · have hr := cond_f hb hr
    refine Tr.skip' ?_
    refine NX.sub (env' := [(0, _), (1, _), (2, _), (3, _), (9, _), (10, _), (11, _)]) ⟨rfl, rfl, rfl, rfl, rfl, rfl, rfl, trivial⟩ ?_
    exact hk11 _ _ ⟨_, rfl, rfl, hr⟩
end Go.Proofs.Ytjpoedjmoobapaa.Sy
