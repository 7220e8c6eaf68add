/- Functions of the program as plain functions, and that the translation computes them; the conditions stand in each theorem. Printed by an own program. -/
import Derived.Test.YtcihfhfolofomaaG2a
import Derived.Test.YtcihfhfolofomaaProg
namespace Go.Proofs.Ytcihfhfolofomaa.Sy
open Go
set_option linter.unusedVariables false
def syllogistref_Mark_k60 (l54 : List (BitVec 32)) (l56 : List Label) (l58 : List Int) : Option (Marked) :=
  some (({ codes := l58, marks := l56, src := l54 } : Marked))

def syllogistref_Mark_k84 (l50 : List Int) (nx71 : (((List (BitVec 32)) × (List (BitVec 32)) × (List Label) × (List Int)) → Option (Marked))) (e_77 : Int) (l78 : List (BitVec 32)) (l80 : List (BitVec 32)) (l82 : List Label) : Option (Marked) :=
  bif decide (l50.length + (([e_77] : List Int)).length ≤ 17592186044416) then
  nx71 (l78, l80, l82, (l50 ++ ([e_77] : List Int))) else none

def syllogistref_Mark_k110 (clear_0 : List Label) (up_3 : Bool) (l44 : List (BitVec 32)) (l46 : List (BitVec 32)) (l48 : List Label) (l50 : List Int) (nx71 : (((List (BitVec 32)) × (List (BitVec 32)) × (List Label) × (List Int)) → Option (Marked))) (y73 : Deed) (c108 : Int) (c109 : BitVec 32) : Option (Marked) :=
  bif (!(up_3 == true) || (geti clear_0 y73.by_).isSome) then
  bif (!(up_3 == true) || (syllogistref_Below (({ level := c108, parts := c109 } : Label)) (((geti clear_0 y73.by_).getD ({ level := (0 : Int), parts := (0#32) } : Label)))).isSome) then
  (bif (up_3 && (!(((syllogistref_Below (({ level := c108, parts := c109 } : Label)) (((geti clear_0 y73.by_).getD ({ level := (0 : Int), parts := (0#32) } : Label)))).getD false)))) then
  syllogistref_Mark_k84 l50 nx71 ((7 : Int)) l44 l46 l48
  else
  (geti l48 y73.by_).bind fun y114 =>
  (geti l44 y73.by_).bind fun y116 =>
  (geti l46 y73.to).bind fun y118 =>
  syllogistref_Mark_k84 l50 nx71 ((0 : Int)) ((l44.set y73.by_.toNat ((y116 ||| y118)))) l46 ((l48.set y73.by_.toNat (({ level := c108, parts := c109 } : Label))))) else none else none

def syllogistref_Mark_k133 (l44 : List (BitVec 32)) (l46 : List (BitVec 32)) (l48 : List Label) (l50 : List Int) (nx71 : (((List (BitVec 32)) × (List (BitVec 32)) × (List Label) × (List Int)) → Option (Marked))) (y73 : Deed) (ok_132 : Bool) : Option (Marked) :=
  (bif (!ok_132) then
  syllogistref_Mark_k84 l50 nx71 ((7 : Int)) l44 l46 l48
  else
  (geti l46 y73.to).bind fun y135 =>
  (geti l44 y73.by_).bind fun y137 =>
  syllogistref_Mark_k84 l50 nx71 ((0 : Int)) l44 ((l46.set y73.to.toNat ((y135 ||| y137)))) l48)

def syllogistref_Mark_b70 (clear_0 : List Label) (things_1 : List Label) (script_2 : List Deed) (up_3 : Bool) (t_69 : Int) (l44 : List (BitVec 32)) (l46 : List (BitVec 32)) (l48 : List Label) (l50 : List Int) (nx71 : ((List (BitVec 32)) × (List (BitVec 32)) × (List Label) × (List Int)) → Option (Marked)) : Option (Marked) :=
  (geti script_2 t_69).bind fun y73 =>
  (bif ((decide (y73.kind < (1 : Int))) || (decide (y73.kind > (3 : Int)))) then
  syllogistref_Mark_k84 l50 nx71 ((6 : Int)) l44 l46 l48
  else
  (bif (((decide (y73.by_ < (0 : Int))) || (decide (y73.by_ ≥ (clear_0.length : Int)))) || ((y73.kind != (3 : Int)) && ((decide (y73.to < (0 : Int))) || (decide (y73.to ≥ (things_1.length : Int)))))) then
  syllogistref_Mark_k84 l50 nx71 ((2 : Int)) l44 l46 l48
  else
  (bif (y73.kind == (3 : Int)) then
  (geti clear_0 y73.by_).bind fun y90 =>
  (geti l48 y73.by_).bind fun y92 =>
  (bif up_3 then
  (geti ((l48.set y73.by_.toNat y90)) y73.by_).bind fun y94 =>
  (geti l44 y73.by_).bind fun y96 =>
  syllogistref_Mark_k84 l50 nx71 ((0 : Int)) ((l44.set y73.by_.toNat (0#32))) l46 ((((l48.set y73.by_.toNat y90)).set y73.by_.toNat (({ level := (0 : Int), parts := (0#32) } : Label))))
  else
  (geti l44 y73.by_).bind fun y98 =>
  syllogistref_Mark_k84 l50 nx71 ((0 : Int)) ((l44.set y73.by_.toNat (0#32))) l46 ((l48.set y73.by_.toNat y90)))
  else
  (bif (y73.kind == (1 : Int)) then
  (geti l48 y73.by_).bind fun y100 =>
  (geti things_1 y73.to).bind fun y102 =>
  (syllogistref_Common y100 y102).bind fun r104 =>
  (bif up_3 then
  (geti l48 y73.by_).bind fun y120 =>
  (geti things_1 y73.to).bind fun y122 =>
  (syllogistref_Both y120 y122).bind fun r124 =>
  syllogistref_Mark_k110 clear_0 up_3 l44 l46 l48 l50 nx71 y73 r124.level r124.parts
  else
  syllogistref_Mark_k110 clear_0 up_3 l44 l46 l48 l50 nx71 y73 r104.level r104.parts)
  else
  (geti things_1 y73.to).bind fun y126 =>
  (geti l48 y73.by_).bind fun y128 =>
  (syllogistref_Below y126 y128).bind fun r130 =>
  (bif up_3 then
  (geti l48 y73.by_).bind fun y139 =>
  (geti things_1 y73.to).bind fun y141 =>
  (syllogistref_Below y139 y141).bind fun r143 =>
  syllogistref_Mark_k133 l44 l46 l48 l50 nx71 y73 r143
  else
  syllogistref_Mark_k133 l44 l46 l48 l50 nx71 y73 r130)))))

def syllogistref_Mark_k29 (clear_0 : List Label) (things_1 : List Label) (script_2 : List Deed) (up_3 : Bool) (l17 : List Label) (l27 : List (BitVec 32)) : Option (Marked) :=
  bif decide (0 ≤ (clear_0.length : Int) ∧ (clear_0.length : Int) ≤ 1048576) then
  forK (σ := (List (BitVec 32)) × (List (BitVec 32)) × (List Label) × (List Int)) (fun i s nx_ => syllogistref_Mark_b70 clear_0 things_1 script_2 up_3 i s.1 s.2.1 s.2.2.1 s.2.2.2 nx_) (fun s => syllogistref_Mark_k60 s.2.1 s.2.2.1 s.2.2.2) ((script_2.length : Int) - (0 : Int)).toNat (0 : Int) (((List.replicate ((clear_0.length : Int)).toNat (0#32))), l27, l17, (([] : List Int))) else none

def syllogistref_Mark_b147 (i_146 : Int) (l25 : List (BitVec 32)) (nx148 : (List (BitVec 32)) → Option (Marked)) : Option (Marked) :=
  bif decide (l25.length + (([(1#32 <<< ((BitVec.ofInt 64 i_146)).toNat)] : List (BitVec 32))).length ≤ 35184372088832) then
  nx148 (l25 ++ ([(1#32 <<< ((BitVec.ofInt 64 i_146)).toNat)] : List (BitVec 32))) else none

def syllogistref_Mark_k19 (clear_0 : List Label) (things_1 : List Label) (script_2 : List Deed) (up_3 : Bool) (l17 : List Label) : Option (Marked) :=
  forK (σ := (List (BitVec 32))) (fun i s nx_ => syllogistref_Mark_b147 i s nx_) (fun s => syllogistref_Mark_k29 clear_0 things_1 script_2 up_3 l17 s) ((things_1.length : Int) - (0 : Int)).toNat (0 : Int) (([] : List (BitVec 32)))

def syllogistref_Mark_k165 (l15 : List Label) (nx157 : ((List Label) → Option (Marked))) (c163 : Int) (c164 : BitVec 32) : Option (Marked) :=
  bif decide (l15.length + (([({ level := c163, parts := c164 } : Label)] : List Label)).length ≤ 8796093022208) then
  nx157 (l15 ++ ([({ level := c163, parts := c164 } : Label)] : List Label)) else none

def syllogistref_Mark_b156 (clear_0 : List Label) (up_3 : Bool) (t_155 : Int) (l15 : List Label) (nx157 : (List Label) → Option (Marked)) : Option (Marked) :=
  (geti clear_0 t_155).bind fun y159 =>
  (bif up_3 then
  syllogistref_Mark_k165 l15 nx157 ((0 : Int)) ((0#32))
  else
  syllogistref_Mark_k165 l15 nx157 y159.level y159.parts)

def syllogistref_Mark (clear_0 : List Label) (things_1 : List Label) (script_2 : List Deed) (up_3 : Bool) : Option (Marked) :=
  forK (σ := (List Label)) (fun i s nx_ => syllogistref_Mark_b156 clear_0 up_3 i s nx_) (fun s => syllogistref_Mark_k19 clear_0 things_1 script_2 up_3 s) ((clear_0.length : Int) - (0 : Int)).toNat (0 : Int) (([] : List Label))

set_option maxRecDepth 100000 in
set_option maxHeartbeats 4000000 in
theorem syllogistref_Mark_ok (w0 : World) (m : Snap) (l : List HI) (uclear_0 : Value) (clear_0 : List Label) (hclear_0 : RS rLabel m uclear_0 clear_0) (uthings_1 : Value) (things_1 : List Label) (hthings_1 : RS rLabel m uthings_1 things_1) (uscript_2 : Value) (script_2 : List Deed) (hscript_2 : RS rDeed m uscript_2 script_2) (up_3 : Bool) (r : Marked) (hr : syllogistref_Mark clear_0 things_1 script_2 up_3 = some r) (w : World) (hc : cX w0 ⟨m, l⟩ w) :
    Calls Try.prog 12 [uclear_0, uthings_1, uscript_2, .bool up_3].toArray w fun e w' => ∃ z0 : Value, ∃ z1 : Value, ∃ z2 : Value, ∃ m1 : Snap, e = .returned (.agg #[z0, z1, z2]) ∧ Sle m m1 ∧ RS rI m1 z0 r.codes ∧ RS rLabel m1 z1 r.marks ∧ RS rU m1 z2 r.src ∧ cX w0 ⟨m1, l⟩ w' := by
  unfold syllogistref_Mark at hr
  refine calls_of_Tr (N := 230) Try.func12 rfl hc rfl (Nat.le_of_ble_eq_true rfl) ?_
  refine Tr.seq ?_
  refine Tr.addnil 28 1 ?_
  refine Tr.cast (m' := m) (l' := hownT 28 1 encI (.slice none 0 0) (([] : List Int)) :: l) rfl rfl ?_
  refine Tr.addnil 65 2 ?_
  refine Tr.cast (m' := m) (l' := hownT 65 2 Label.enc (.slice none 0 0) (([] : List Label)) :: hownT 28 1 encI (.slice none 0 0) (([] : List Int)) :: l) rfl rfl ?_
  refine Tr.addnil 63 1 ?_
  refine Tr.cast (m' := m) (l' := hownT 63 1 encU (.slice none 0 0) (([] : List (BitVec 32))) :: hownT 65 2 Label.enc (.slice none 0 0) (([] : List Label)) :: hownT 28 1 encI (.slice none 0 0) (([] : List Int)) :: l) rfl rfl ?_
  refine Tr.region_f (fun i => Nat.beq i 0) ?_
  refine W.e rfl rfl rfl rfl (by decide) (Ef.al rfl ZR27 rfl) ?_
  rintro _ _ ⟨b4, rfl, rfl⟩
  refine ⟨.inl rfl, ?_⟩
  refine W.cast (m' := m) (l' := hcells b4 [_, _, _] 27 :: hownT 63 1 encU (.slice none 0 0) (([] : List (BitVec 32))) :: hownT 65 2 Label.enc (.slice none 0 0) (([] : List Label)) :: hownT 28 1 encI (.slice none 0 0) (([] : List Int)) :: l) rfl rfl ?_
  refine W.end ?_
  refine NX.sub (env' := [(0, _), (1, _), (2, _), (3, _), (8, _)]) ⟨rfl, rfl, rfl, rfl, rfl, trivial⟩ ?_
  refine NX.then ?_
  refine Tr.seq ?_
  refine Tr.addnil 28 1 ?_
  refine Tr.cast (m' := m) (l' := hownT 28 1 encI (.slice none 0 0) (([] : List Int)) :: hcells b4 [(.slice none 0 0), (.slice none 0 0), (.slice none 0 0)] 27 :: hownT 63 1 encU (.slice none 0 0) (([] : List (BitVec 32))) :: hownT 65 2 Label.enc (.slice none 0 0) (([] : List Label)) :: hownT 28 1 encI (.slice none 0 0) (([] : List Int)) :: l) rfl rfl ?_
  refine Tr.addnil 65 2 ?_
  refine Tr.cast (m' := m) (l' := hownT 65 2 Label.enc (.slice none 0 0) (([] : List Label)) :: hownT 28 1 encI (.slice none 0 0) (([] : List Int)) :: hcells b4 [(.slice none 0 0), (.slice none 0 0), (.slice none 0 0)] 27 :: hownT 63 1 encU (.slice none 0 0) (([] : List (BitVec 32))) :: hownT 65 2 Label.enc (.slice none 0 0) (([] : List Label)) :: hownT 28 1 encI (.slice none 0 0) (([] : List Int)) :: l) rfl rfl ?_
  refine Tr.addnil 63 1 ?_
  refine Tr.cast (m' := m) (l' := hownT 63 1 encU (.slice none 0 0) (([] : List (BitVec 32))) :: hownT 65 2 Label.enc (.slice none 0 0) (([] : List Label)) :: hownT 28 1 encI (.slice none 0 0) (([] : List Int)) :: hcells b4 [(.slice none 0 0), (.slice none 0 0), (.slice none 0 0)] 27 :: hownT 63 1 encU (.slice none 0 0) (([] : List (BitVec 32))) :: hownT 65 2 Label.enc (.slice none 0 0) (([] : List Label)) :: hownT 28 1 encI (.slice none 0 0) (([] : List Int)) :: l) rfl rfl ?_
  refine Tr.region_f (fun i => Nat.beq i 1 || Nat.beq i 2) ?_
  refine W.q rfl rfl rfl rfl (by decide) (Yd.bld (cells := [.slice none 0 0, .slice none 0 0, .slice none 0 0]) rfl ZI27 PL27 .nil rfl) ?_
  refine W.e rfl rfl rfl rfl (by decide) (Ef.al rfl ZR27 rfl) ?_
  rintro _ _ ⟨b9, rfl, rfl⟩
  refine ⟨.inl rfl, ?_⟩
  refine W.cast (m' := m) (l' := hcells b9 [_, _, _] 27 :: hownT 63 1 encU (.slice none 0 0) (([] : List (BitVec 32))) :: hownT 65 2 Label.enc (.slice none 0 0) (([] : List Label)) :: hownT 28 1 encI (.slice none 0 0) (([] : List Int)) :: hcells b4 [_, _, _] 27 :: hownT 63 1 encU (.slice none 0 0) (([] : List (BitVec 32))) :: hownT 65 2 Label.enc (.slice none 0 0) (([] : List Label)) :: hownT 28 1 encI (.slice none 0 0) (([] : List Int)) :: l) rfl rfl ?_
  refine W.s rfl rfl rfl rfl (Ef.stB (pos := 0) (us := [_, _, _]) (cs' := [_, _, _]) rfl rfl (.t rfl) (.t rfl) SZ27 rfl rfl rfl (Nat.le_of_ble_eq_true rfl) rfl) ?_
  rintro _ _ ⟨rfl, rfl⟩
  refine ⟨.inl rfl, ?_⟩
  refine W.cast (m' := m) (l' := hcells b9 [_, _, _] 27 :: hownT 63 1 encU (.slice none 0 0) (([] : List (BitVec 32))) :: hownT 65 2 Label.enc (.slice none 0 0) (([] : List Label)) :: hownT 28 1 encI (.slice none 0 0) (([] : List Int)) :: hcells b4 [_, _, _] 27 :: hownT 63 1 encU (.slice none 0 0) (([] : List (BitVec 32))) :: hownT 65 2 Label.enc (.slice none 0 0) (([] : List Label)) :: hownT 28 1 encI (.slice none 0 0) (([] : List Int)) :: l) rfl rfl ?_
  refine W.end ?_
  refine NX.sub (env' := [(0, _), (1, _), (2, _), (3, _), (8, _), (9, _)]) ⟨rfl, rfl, rfl, rfl, rfl, rfl, trivial⟩ ?_
  refine NX.then ?_
  refine Tr.seq ?_
  refine Tr.seq ?_
  refine Tr.region_f (fun _ => false) ?_
  refine W.q rfl rfl rfl rfl (by decide) (Yd.mv rfl (.t rfl)) ?_
  refine W.q rfl rfl rfl rfl (by decide) (Yd.lenR hclear_0 rfl Try.underlying22 (.t rfl)) ?_
  refine W.q rfl rfl rfl rfl (by decide) (Yd.mv rfl .c) ?_
  refine W.end ?_
  refine NX.sub (env' := [(0, _), (1, _), (2, _), (3, _), (8, _), (9, _), (20, _), (21, _), (22, _)]) ⟨rfl, rfl, rfl, rfl, rfl, rfl, rfl, rfl, rfl, trivial⟩ ?_
  refine NX.then ?_
  refine Tr.join (S := fun env x => ∃ l17 : List Label, ∃ v18 : Value, env = [(0, uclear_0), (1, uthings_1), (2, uscript_2), (3, .bool up_3), (8, bp b4 0), (9, bp b9 0)] ∧ x = ⟨m, hcells b9 [(.slice none 0 0), v18, (.slice none 0 0)] 27 :: hownT 63 1 encU (.slice none 0 0) (([] : List (BitVec 32))) :: hownT 65 2 Label.enc v18 l17 :: hownT 28 1 encI (.slice none 0 0) (([] : List Int)) :: hcells b4 [(.slice none 0 0), (.slice none 0 0), (.slice none 0 0)] 27 :: hownT 63 1 encU (.slice none 0 0) (([] : List (BitVec 32))) :: hownT 65 2 Label.enc (.slice none 0 0) (([] : List Label)) :: hownT 28 1 encI (.slice none 0 0) (([] : List Int)) :: l⟩ ∧ syllogistref_Mark_k19 clear_0 things_1 script_2 up_3 l17 = some r) ?_ (fun hk20 => ?_)
  · rintro _ _ ⟨l17, v18, rfl, rfl, hr⟩
    unfold syllogistref_Mark_k19 at hr
    try dsimp only at hr
    refine NX.then ?_
    refine Tr.seq ?_
    refine Tr.seq ?_
    refine Tr.region_f (fun _ => false) ?_
    refine W.q rfl rfl rfl rfl (by decide) (Yd.as rfl .c) ?_
    refine W.end ?_
    refine NX.sub (env' := [(0, _), (1, _), (2, _), (3, _), (8, _), (9, _), (12, _)]) ⟨rfl, rfl, rfl, rfl, rfl, rfl, rfl, trivial⟩ ?_
    refine NX.then ?_
    refine Tr.join (S := fun env x => ∃ l27 : List (BitVec 32), ∃ v28 : Value, env = [(0, uclear_0), (1, uthings_1), (2, uscript_2), (3, .bool up_3), (8, bp b4 0), (9, bp b9 0)] ∧ x = ⟨m, hcells b9 [(.slice none 0 0), v18, v28] 27 :: hownT 63 1 encU v28 l27 :: hownT 65 2 Label.enc v18 l17 :: hownT 28 1 encI (.slice none 0 0) (([] : List Int)) :: hcells b4 [(.slice none 0 0), (.slice none 0 0), (.slice none 0 0)] 27 :: hownT 63 1 encU (.slice none 0 0) (([] : List (BitVec 32))) :: hownT 65 2 Label.enc (.slice none 0 0) (([] : List Label)) :: hownT 28 1 encI (.slice none 0 0) (([] : List Int)) :: l⟩ ∧ syllogistref_Mark_k29 clear_0 things_1 script_2 up_3 l17 l27 = some r) ?_ (fun hk30 => ?_)
    · rintro _ _ ⟨l27, v28, rfl, rfl, hr⟩
      unfold syllogistref_Mark_k29 at hr
      try dsimp only at hr
      refine NX.then ?_
      refine Tr.seq ?_
      obtain ⟨hq31, hr⟩ := guard_some hr; replace hq31 := of_decide_eq_true hq31
      refine Tr.region_f (fun i => Nat.beq i 2) ?_
      refine W.q rfl rfl rfl rfl (by decide) (Yd.mv rfl (.t rfl)) ?_
      refine W.q rfl rfl rfl rfl (by decide) (Yd.lenR hclear_0 rfl Try.underlying22 (.t rfl)) ?_
      refine W.e rfl rfl rfl rfl (by decide) (Ef.mkT (enc := encU) (0#32) IF63 rfl Try.underlying25 rfl rfl (by decide) (.t rfl) (.t rfl) (by omega) (by omega) (by omega)) ?_
      rintro v32 _ rfl
      refine ⟨.inl rfl, ?_⟩
      refine W.cast (m' := m) (l' := hownT 63 1 encU v32 _ :: hcells b9 [_, _, _] 27 :: hownT 63 1 encU v28 _ :: hownT 65 2 Label.enc v18 _ :: hownT 28 1 encI (.slice none 0 0) (([] : List Int)) :: hcells b4 [_, _, _] 27 :: hownT 63 1 encU (.slice none 0 0) (([] : List (BitVec 32))) :: hownT 65 2 Label.enc (.slice none 0 0) (([] : List Label)) :: hownT 28 1 encI (.slice none 0 0) (([] : List Int)) :: l) rfl rfl ?_
      refine W.q rfl rfl rfl rfl (by decide) (Yd.as rfl (.t rfl)) ?_
      refine W.end ?_
      refine NX.sub (env' := [(0, _), (1, _), (2, _), (3, _), (8, _), (9, _), (13, _)]) ⟨rfl, rfl, rfl, rfl, rfl, rfl, rfl, trivial⟩ ?_
      refine NX.then ?_
      refine Tr.seq ?_
      refine Tr.seq ?_
      refine Tr.region_f (fun _ => false) ?_
      refine W.q rfl rfl rfl rfl (by decide) (Yd.mv rfl (.t rfl)) ?_
      refine W.q rfl rfl rfl rfl (by decide) (Yd.lenR hscript_2 rfl Try.underlying23 (.t rfl)) ?_
      refine W.q rfl rfl rfl rfl (by decide) (Yd.mv rfl .c) ?_
      refine W.end ?_
      refine NX.sub (env' := [(0, _), (1, _), (3, _), (8, _), (9, _), (13, _), (52, _), (53, _), (54, _)]) ⟨rfl, rfl, rfl, rfl, rfl, rfl, rfl, rfl, rfl, trivial⟩ ?_
      refine NX.then ?_
      refine Tr.join (S := fun env x => ∃ l54 : List (BitVec 32), ∃ l56 : List Label, ∃ l58 : List Int, ∃ v55 : Value, ∃ v57 : Value, ∃ v59 : Value, env = [(8, bp b4 0), (9, bp b9 0)] ∧ x = ⟨m, hcells b9 [v59, v57, v55] 27 :: hownT 63 1 encU v55 l54 :: hownT 65 2 Label.enc v57 l56 :: hownT 28 1 encI v59 l58 :: hcells b4 [(.slice none 0 0), (.slice none 0 0), (.slice none 0 0)] 27 :: hownT 63 1 encU (.slice none 0 0) (([] : List (BitVec 32))) :: hownT 65 2 Label.enc (.slice none 0 0) (([] : List Label)) :: hownT 28 1 encI (.slice none 0 0) (([] : List Int)) :: l⟩ ∧ syllogistref_Mark_k60 l54 l56 l58 = some r) ?_ (fun hk61 => ?_)
      · rintro _ _ ⟨l54, l56, l58, v55, v57, v59, rfl, rfl, hr⟩
        unfold syllogistref_Mark_k60 at hr
        try dsimp only at hr
        refine NX.then ?_
        refine Tr.seq ?_
        refine Tr.region_f (fun i => Nat.beq i 1) ?_
        refine W.q rfl rfl rfl rfl (by decide) (Yd.ldBs (pos := 0) (us := [_, _, _]) rfl rfl rfl rfl ON27 US27 SZ27 (.t rfl)) ?_
        refine W.s rfl rfl rfl rfl (Ef.stBs (pos := 4) (us := [v59, v57, v55]) (cs' := [_, _, _]) (.cons (On.own (pos := 3) rfl) (.cons (On.own (pos := 2) rfl) (.cons (On.own (pos := 1) rfl) .nil))) rfl rfl (.t rfl) (.t rfl) SZ27 rfl rfl (Nat.le_of_ble_eq_true rfl) rfl) ?_
        rintro _ _ ⟨rfl, rfl⟩
        refine ⟨.inl rfl, ?_⟩
        refine W.cast (m' := m) (l' := hcells b9 [_, _, _] 27 :: hownT 63 1 encU v55 _ :: hownT 65 2 Label.enc v57 _ :: hownT 28 1 encI v59 _ :: hcells b4 [_, _, _] 27 :: hownT 63 1 encU (.slice none 0 0) (([] : List (BitVec 32))) :: hownT 65 2 Label.enc (.slice none 0 0) (([] : List Label)) :: hownT 28 1 encI (.slice none 0 0) (([] : List Int)) :: l) rfl rfl ?_
        refine W.end ?_
        refine NX.sub (env' := [(8, _)]) ⟨rfl, trivial⟩ ?_
        refine NX.drop (l' := hownT 63 1 encU v55 _ :: hownT 65 2 Label.enc v57 _ :: hownT 28 1 encI v59 _ :: hcells b4 [_, _, _] 27 :: l) (.cons _ (.cons_cons _ (.cons_cons _ (.cons_cons _ (.cons_cons _ (.cons _ (.cons _ (.cons _ (.refl _))))))))) ?_
        refine NX.then ?_
        refine Tr.ret' ?_
        refine resV1 rfl (Rv.cs (pos := 3) rfl rfl rfl ON27 US27 SZ27) ?_
        intro w hc
        cases hr
        obtain ⟨m62, hsm62, hu63, hc⟩ := cX_freeze (enc := encI) (n := 1) (p := 2) (fun _ => rfl) hc rfl
        have hclear_0 := hclear_0.mono hsm62
        have hthings_1 := hthings_1.mono hsm62
        have hscript_2 := hscript_2.mono hsm62
        obtain ⟨m64, hsm64, hu65, hc⟩ := cX_freeze (enc := Label.enc) (n := 2) (p := 1) (fun _ => rfl) hc rfl
        have hclear_0 := hclear_0.mono hsm64
        have hthings_1 := hthings_1.mono hsm64
        have hscript_2 := hscript_2.mono hsm64
        have hu63 := hu63.mono hsm64
        obtain ⟨m66, hsm66, hu67, hc⟩ := cX_freeze (enc := encU) (n := 1) (p := 0) (fun _ => rfl) hc rfl
        have hclear_0 := hclear_0.mono hsm66
        have hthings_1 := hthings_1.mono hsm66
        have hscript_2 := hscript_2.mono hsm66
        have hu63 := hu63.mono hsm66
        have hu65 := hu65.mono hsm66
        exact ⟨_, _, _, _, rfl, ((hsm62.trans hsm64).trans hsm66), hu63, hu65, hu67, (cX_sub (.cons _ (.refl _)) hc)⟩
      have hlen68 := (hscript_2).2.1
      refine Tr.block ?_
      refine Tr.sub (env' := [(0, _), (1, _), (3, _), (8, _), (9, _), (13, _), (52, _), (53, _), (54, _)]) ⟨rfl, rfl, rfl, rfl, rfl, rfl, rfl, rfl, rfl, trivial⟩ ?_
      refine Tr.loop (S := fun n (z : Int × (List (BitVec 32)) × (List (BitVec 32)) × (List Label) × (List Int)) env x => match z with | (t_69, l44, l46, l48, l50) => ∃ v45 : Value, ∃ v47 : Value, ∃ v49 : Value, ∃ v51 : Value, env = [(0, uclear_0), (1, uthings_1), (3, .bool up_3), (8, bp b4 0), (9, bp b9 0), (13, v45), (52, uscript_2), (53, .int .i64 ((script_2.length : Int))), (54, .int .i64 t_69)] ∧ x = ⟨m, hownT 63 1 encU v45 l44 :: hcells b9 [v51, v49, v47] 27 :: hownT 63 1 encU v47 l46 :: hownT 65 2 Label.enc v49 l48 :: hownT 28 1 encI v51 l50 :: hcells b4 [(.slice none 0 0), (.slice none 0 0), (.slice none 0 0)] 27 :: hownT 63 1 encU (.slice none 0 0) (([] : List (BitVec 32))) :: hownT 65 2 Label.enc (.slice none 0 0) (([] : List Label)) :: hownT 28 1 encI (.slice none 0 0) (([] : List Int)) :: l⟩ ∧ n = ((script_2.length : Int) - t_69).toNat ∧ 0 ≤ t_69 ∧ forK (σ := (List (BitVec 32)) × (List (BitVec 32)) × (List Label) × (List Int)) (fun i s nx_ => syllogistref_Mark_b70 clear_0 things_1 script_2 up_3 i s.1 s.2.1 s.2.2.1 s.2.2.2 nx_) (fun s => syllogistref_Mark_k60 s.2.1 s.2.2.1 s.2.2.2) n t_69 (l44, l46, l48, l50) = some r) _ ((0 : Int), (List.replicate ((clear_0.length : Int)).toNat (0#32)), l27, l17, ([] : List Int)) ⟨_, _, _, _, rfl, rfl, rfl, (by omega), hr⟩ ?_
      rintro n72 ⟨t_69, l44, l46, l48, l50⟩ env x ⟨v45, v47, v49, v51, rfl, rfl, hnt_69, h0t_69, hr⟩
      cases n72 with
      | zero =>
        simp only [forK] at hr
        refine Tr.seq ?_
        refine Tr.region_f (fun _ => false) ?_
        refine W.q rfl rfl rfl rfl (by decide) (Yd.lss rfl (.t rfl) (.t rfl)) ?_
        refine W.end ?_
        refine NX.sub (env' := [(0, _), (1, _), (3, _), (8, _), (9, _), (13, _), (52, _), (53, _), (54, _), (55, _)]) ⟨rfl, rfl, rfl, rfl, rfl, rfl, rfl, rfl, rfl, rfl, trivial⟩ ?_
        refine NX.then ?_
        refine Tr.seq ?_
        refine Tr.cond (.t rfl) (fun hb => ?_) (fun hb => ?_)
        · exact absurd (hb.symm.trans (fr_end hnt_69)) (by decide)
        ·
          refine Tr.exit' (EX.then (EX.then (EX.block ?_)))
          refine NX.sub (env' := [(8, _), (9, _)]) ⟨rfl, rfl, trivial⟩ ?_
          refine NX.drop (l' := hcells b9 [_, _, _] 27 :: hownT 63 1 encU v47 _ :: hownT 65 2 Label.enc v49 _ :: hownT 28 1 encI v51 _ :: hcells b4 [_, _, _] 27 :: hownT 63 1 encU (.slice none 0 0) (([] : List (BitVec 32))) :: hownT 65 2 Label.enc (.slice none 0 0) (([] : List Label)) :: hownT 28 1 encI (.slice none 0 0) (([] : List Int)) :: l) (.cons _ (.cons_cons _ (.cons_cons _ (.cons_cons _ (.cons_cons _ (.cons_cons _ (.cons_cons _ (.cons_cons _ (.cons_cons _ (.refl _)))))))))) ?_
          exact hk61 _ _ ⟨_, _, _, _, _, _, rfl, rfl, hr⟩
      | succ n72 =>
        obtain ⟨nx71, hnx71, hr⟩ := forK_succ hr
        try dsimp only at hr
        unfold syllogistref_Mark_b70 at hr
        try dsimp only at hr
        have hltt_69 := fr_bnd hnt_69
        refine Tr.seq ?_
        refine Tr.region_f (fun _ => false) ?_
        refine W.q rfl rfl rfl rfl (by decide) (Yd.lss rfl (.t rfl) (.t rfl)) ?_
        refine W.end ?_
        refine NX.sub (env' := [(0, _), (1, _), (3, _), (8, _), (9, _), (13, _), (52, _), (53, _), (54, _), (55, _)]) ⟨rfl, rfl, rfl, rfl, rfl, rfl, rfl, rfl, rfl, rfl, trivial⟩ ?_
        refine NX.then ?_
        refine Tr.seq ?_
        refine Tr.cond (.t rfl) (fun hb => ?_) (fun hb => ?_)
        rotate_left
        · exact absurd (hb.symm.trans (fr_go hnt_69)) (by decide)
        ·
          refine Tr.skip' ?_
          refine NX.then ?_
          refine Tr.seq ?_
          refine Tr.block ?_
          refine Tr.seq ?_
          obtain ⟨y73, hy74, hr⟩ := bind_some hr
          refine Tr.region_f (fun i => Nat.beq i 2 || Nat.beq i 3) ?_
          refine W.q rfl rfl rfl rfl (by decide) (Yd.idxR hscript_2 hy74 rfl Try.underlying23 SZ67 (.t rfl) (.t rfl)) ?_
          refine W.q rfl rfl rfl rfl (by decide) (Yd.ldFs (us := [_, _, _, _, _, _]) hscript_2 (.refl _) hy74 rfl rfl ON67 US67 SZ67 (.t rfl)) ?_
          refine W.e rfl rfl rfl rfl (by decide) (Ef.al rfl ZR67 rfl) ?_
          rintro _ _ ⟨b75, rfl, rfl⟩
          refine ⟨.inl rfl, ?_⟩
          refine W.cast (m' := m) (l' := hcells b75 [_, _, _, _, _, _] 67 :: hownT 63 1 encU v45 _ :: hcells b9 [_, _, _] 27 :: hownT 63 1 encU v47 _ :: hownT 65 2 Label.enc v49 _ :: hownT 28 1 encI v51 _ :: hcells b4 [_, _, _] 27 :: hownT 63 1 encU (.slice none 0 0) (([] : List (BitVec 32))) :: hownT 65 2 Label.enc (.slice none 0 0) (([] : List Label)) :: hownT 28 1 encI (.slice none 0 0) (([] : List Int)) :: l) rfl rfl ?_
          refine W.s rfl rfl rfl rfl (Ef.stB (pos := 0) (us := [_, _, _, _, _, _]) (cs' := [_, _, _, _, _, _]) rfl rfl (.t rfl) (.t rfl) SZ67 rfl rfl rfl (Nat.le_of_ble_eq_true rfl) rfl) ?_
          rintro _ _ ⟨rfl, rfl⟩
          refine ⟨.inl rfl, ?_⟩
          refine W.cast (m' := m) (l' := hcells b75 [_, _, _, _, _, _] 67 :: hownT 63 1 encU v45 _ :: hcells b9 [_, _, _] 27 :: hownT 63 1 encU v47 _ :: hownT 65 2 Label.enc v49 _ :: hownT 28 1 encI v51 _ :: hcells b4 [_, _, _] 27 :: hownT 63 1 encU (.slice none 0 0) (([] : List (BitVec 32))) :: hownT 65 2 Label.enc (.slice none 0 0) (([] : List Label)) :: hownT 28 1 encI (.slice none 0 0) (([] : List Int)) :: l) rfl rfl ?_
          refine W.end ?_
          refine NX.sub (env' := [(0, _), (1, _), (3, _), (8, _), (9, _), (13, _), (52, _), (53, _), (54, _), (15, _)]) ⟨rfl, rfl, rfl, rfl, rfl, rfl, rfl, rfl, rfl, rfl, trivial⟩ ?_
          refine NX.then ?_
          refine Tr.seq ?_
          refine Tr.region_f (fun _ => false) ?_
          refine W.q rfl rfl rfl rfl (by decide) (Yd.as rfl .c) ?_
          refine W.end ?_
          refine NX.sub (env' := [(0, _), (1, _), (3, _), (8, _), (9, _), (13, _), (52, _), (53, _), (54, _), (15, _), (16, _)]) ⟨rfl, rfl, rfl, rfl, rfl, rfl, rfl, rfl, rfl, rfl, rfl, trivial⟩ ?_
          refine NX.then ?_
          refine Tr.seq ?_
          refine Tr.seq ?_
          refine Tr.region_f (fun _ => false) ?_
          refine W.q rfl rfl rfl rfl (by decide) (Yd.fldB rfl Try.underlying67 rfl SZ3 rfl (.t rfl)) ?_
          refine W.q rfl rfl rfl rfl (by decide) (Yd.ldB (pos := 0) rfl rfl rfl ON3 (.t rfl)) ?_
          refine W.q rfl rfl rfl rfl (by decide) (Yd.lss rfl (.t rfl) .c) ?_
          refine W.q rfl rfl rfl rfl (by decide) (Yd.mv rfl (.t rfl)) ?_
          refine W.g rfl rfl rfl rfl rfl (.t rfl _) rfl (by decide) (fun hG => Yd.fldB rfl Try.underlying67 rfl SZ3 rfl (.t rfl)) ?_
          refine W.g rfl rfl rfl rfl rfl (.t rfl _) rfl (by decide) (fun hG => Yd.ldB (pos := 0) rfl rfl rfl ON3 (.g rfl hG)) ?_
          refine W.g rfl rfl rfl rfl rfl (.t rfl _) rfl (by decide) (fun hG => Yd.gtr rfl (.g rfl hG) .c) ?_
          refine W.q rfl rfl rfl rfl (by decide) (Yd.or rfl (.t rfl) .c rfl rfl) ?_
          refine W.end ?_
          refine NX.sub (env' := [(0, _), (1, _), (3, _), (8, _), (9, _), (13, _), (52, _), (53, _), (54, _), (15, _), (16, _), (65, _)]) ⟨rfl, rfl, rfl, rfl, rfl, rfl, rfl, rfl, rfl, rfl, rfl, rfl, trivial⟩ ?_
          refine NX.then ?_
          refine Tr.join (S := fun env x => ∃ e_77 : Int, ∃ l78 : List (BitVec 32), ∃ l80 : List (BitVec 32), ∃ l82 : List Label, ∃ v79 : Value, ∃ v81 : Value, ∃ v83 : Value, env = [(0, uclear_0), (1, uthings_1), (3, .bool up_3), (8, bp b4 0), (9, bp b9 0), (13, v79), (52, uscript_2), (53, .int .i64 ((script_2.length : Int))), (54, .int .i64 t_69), (16, .int .i64 e_77)] ∧ x = ⟨m, hownT 63 1 encU v79 l78 :: hcells b9 [v51, v83, v81] 27 :: hownT 63 1 encU v81 l80 :: hownT 65 2 Label.enc v83 l82 :: hownT 28 1 encI v51 l50 :: hcells b4 [(.slice none 0 0), (.slice none 0 0), (.slice none 0 0)] 27 :: hownT 63 1 encU (.slice none 0 0) (([] : List (BitVec 32))) :: hownT 65 2 Label.enc (.slice none 0 0) (([] : List Label)) :: hownT 28 1 encI (.slice none 0 0) (([] : List Int)) :: l⟩ ∧ syllogistref_Mark_k84 l50 nx71 e_77 l78 l80 l82 = some r) ?_ (fun hk85 => ?_)
          · rintro _ _ ⟨e_77, l78, l80, l82, v79, v81, v83, rfl, rfl, hr⟩
            unfold syllogistref_Mark_k84 at hr
            try dsimp only at hr
            refine NX.then ?_
            obtain ⟨hq89, hr⟩ := guard_some hr; replace hq89 := of_decide_eq_true hq89
            refine Tr.region_f (fun i => Nat.beq i 3 || Nat.beq i 4 || Nat.beq i 6) ?_
            refine W.q rfl rfl rfl rfl (by decide) (Yd.fldB rfl Try.underlying27 rfl SZ24 rfl (.t rfl)) ?_
            refine W.q rfl rfl rfl rfl (by decide) (Yd.ldB (pos := 1) rfl rfl rfl ON24 (.t rfl)) ?_
            refine W.q rfl rfl rfl rfl (by decide) (Yd.mv rfl (.t rfl)) ?_
            refine W.e rfl rfl rfl rfl (by decide) (Ef.bsT (enc := encI) (vs := [_]) (ys := [e_77]) (fun _ => rfl) IF28 rfl Try.underlying24 (by decide) rfl (.cons (.t rfl) .nil) rfl rfl (by decide)) ?_
            rintro v86 _ rfl
            refine ⟨.inl rfl, ?_⟩
            refine W.cast (m' := m) (l' := hownT 28 1 encI v86 _ :: hownT 63 1 encU v79 _ :: hcells b9 [_, _, _] 27 :: hownT 63 1 encU v81 _ :: hownT 65 2 Label.enc v83 _ :: hownT 28 1 encI v51 _ :: hcells b4 [_, _, _] 27 :: hownT 63 1 encU (.slice none 0 0) (([] : List (BitVec 32))) :: hownT 65 2 Label.enc (.slice none 0 0) (([] : List Label)) :: hownT 28 1 encI (.slice none 0 0) (([] : List Int)) :: l) rfl rfl ?_
            refine W.e rfl rfl rfl rfl (by decide) (Ef.apI (pos := 5) (enc := encI) (xs := l50) (ys := ([e_77] : List Int)) (fun _ => rfl) IF28 rfl rfl Try.underlying24 rfl (by decide) (.t rfl) (.t rfl) (Src.own (pos := 0) rfl) (fun _ => rfl) (by omega) (by omega)) ?_
            rintro v88 _ rfl
            refine ⟨.inl rfl, ?_⟩
            refine W.cast (m' := m) (l' := hownT 28 1 encI v86 _ :: hownT 63 1 encU v79 _ :: hcells b9 [_, _, _] 27 :: hownT 63 1 encU v81 _ :: hownT 65 2 Label.enc v83 _ :: hownT 28 1 encI v88 _ :: hcells b4 [_, _, _] 27 :: hownT 63 1 encU (.slice none 0 0) (([] : List (BitVec 32))) :: hownT 65 2 Label.enc (.slice none 0 0) (([] : List Label)) :: hownT 28 1 encI (.slice none 0 0) (([] : List Int)) :: l) rfl rfl ?_
            refine W.q rfl rfl rfl rfl (by decide) (Yd.fldB rfl Try.underlying27 rfl SZ24 rfl (.t rfl)) ?_
            refine W.s rfl rfl rfl rfl (Ef.stBo (pos := 2) (pos2 := 5) (cs' := [_, _, _]) rfl rfl rfl (.t rfl) (.t rfl) SZ24 (Nat.le_of_ble_eq_true rfl) rfl) ?_
            rintro _ _ ⟨rfl, rfl⟩
            refine ⟨.inl rfl, ?_⟩
            refine W.cast (m' := m) (l' := hownT 28 1 encI v86 _ :: hownT 63 1 encU v79 _ :: hcells b9 [_, _, _] 27 :: hownT 63 1 encU v81 _ :: hownT 65 2 Label.enc v83 _ :: hownT 28 1 encI v88 _ :: hcells b4 [_, _, _] 27 :: hownT 63 1 encU (.slice none 0 0) (([] : List (BitVec 32))) :: hownT 65 2 Label.enc (.slice none 0 0) (([] : List Label)) :: hownT 28 1 encI (.slice none 0 0) (([] : List Int)) :: l) rfl rfl ?_
            refine W.end ?_
            refine NX.sub (env' := [(0, _), (1, _), (3, _), (8, _), (9, _), (13, _), (52, _), (53, _), (54, _)]) ⟨rfl, rfl, rfl, rfl, rfl, rfl, rfl, rfl, rfl, trivial⟩ ?_
            refine NX.drop (l' := hownT 63 1 encU v79 _ :: hcells b9 [_, _, _] 27 :: hownT 63 1 encU v81 _ :: hownT 65 2 Label.enc v83 _ :: hownT 28 1 encI v88 _ :: hcells b4 [_, _, _] 27 :: hownT 63 1 encU (.slice none 0 0) (([] : List (BitVec 32))) :: hownT 65 2 Label.enc (.slice none 0 0) (([] : List Label)) :: hownT 28 1 encI (.slice none 0 0) (([] : List Int)) :: l) (.cons _ (.cons_cons _ (.cons_cons _ (.cons_cons _ (.cons_cons _ (.cons_cons _ (.cons_cons _ (.cons_cons _ (.cons_cons _ (.cons_cons _ (.refl _))))))))))) ?_
            refine NX.block ?_
            refine NX.then ?_
            refine Tr.region_f (fun _ => false) ?_
            refine W.q rfl rfl rfl rfl (by decide) (Yd.add rfl (.t rfl) .c) ?_
            refine W.q rfl rfl rfl rfl (by decide) (Yd.mv rfl (.t rfl)) ?_
            refine W.end ?_
            refine NX.sub (env' := [(0, _), (1, _), (3, _), (8, _), (9, _), (13, _), (52, _), (53, _), (54, _)]) ⟨rfl, rfl, rfl, rfl, rfl, rfl, rfl, rfl, rfl, trivial⟩ ?_
            refine NX.sub (env' := [(0, _), (1, _), (3, _), (8, _), (9, _), (13, _), (52, _), (53, _), (54, _)]) ⟨rfl, rfl, rfl, rfl, rfl, rfl, rfl, rfl, rfl, trivial⟩ ?_
            have hw := w64_id (n := t_69 + 1) (by omega) (by omega)
            exact NX.again n72 (t_69 + 1, l78, l80, l82, (l50 ++ ([e_77] : List Int))) (Nat.lt_succ_self _) ⟨_, _, _, _, (by rw [hw] <;> rfl), rfl, (fr_dec hnt_69), (by omega), ((hnx71 _).symm.trans hr)⟩
          refine Tr.cond (.t rfl) (fun hb => ?_) (fun hb => ?_)
          · have hr := cond_t hb hr
            refine Tr.region_f (fun _ => false) ?_
            refine W.q rfl rfl rfl rfl (by decide) (Yd.as rfl .c) ?_
            refine W.end ?_
            refine NX.sub (env' := [(0, _), (1, _), (3, _), (8, _), (9, _), (13, _), (52, _), (53, _), (54, _), (16, _)]) ⟨rfl, rfl, rfl, rfl, rfl, rfl, rfl, rfl, rfl, rfl, trivial⟩ ?_
            refine NX.drop (l' := hownT 63 1 encU v45 _ :: hcells b9 [_, _, _] 27 :: hownT 63 1 encU v47 _ :: hownT 65 2 Label.enc v49 _ :: hownT 28 1 encI v51 _ :: hcells b4 [_, _, _] 27 :: hownT 63 1 encU (.slice none 0 0) (([] : List (BitVec 32))) :: hownT 65 2 Label.enc (.slice none 0 0) (([] : List Label)) :: hownT 28 1 encI (.slice none 0 0) (([] : List Int)) :: l) (.cons _ (.cons_cons _ (.cons_cons _ (.cons_cons _ (.cons_cons _ (.cons_cons _ (.cons_cons _ (.cons_cons _ (.cons_cons _ (.cons_cons _ (.refl _))))))))))) ?_
            refine NX.sub (env' := [(0, _), (1, _), (3, _), (8, _), (9, _), (13, _), (52, _), (53, _), (54, _), (16, _)]) ⟨rfl, rfl, rfl, rfl, rfl, rfl, rfl, rfl, rfl, rfl, trivial⟩ ?_
            exact hk85 _ _ ⟨_, _, _, _, _, _, _, rfl, rfl, hr⟩
          · have hr := cond_f hb hr
            refine Tr.seq ?_
            refine Tr.region_f (fun _ => false) ?_
            refine W.q rfl rfl rfl rfl (by decide) (Yd.fldB rfl Try.underlying67 rfl SZ3 rfl (.t rfl)) ?_
            refine W.q rfl rfl rfl rfl (by decide) (Yd.ldB (pos := 0) rfl rfl rfl ON3 (.t rfl)) ?_
            refine W.q rfl rfl rfl rfl (by decide) (Yd.lss rfl (.t rfl) .c) ?_
            refine W.q rfl rfl rfl rfl (by decide) (Yd.mv rfl (.t rfl)) ?_
            refine W.g rfl rfl rfl rfl rfl (.t rfl _) rfl (by decide) (fun hG => Yd.fldB rfl Try.underlying67 rfl SZ3 rfl (.t rfl)) ?_
            refine W.g rfl rfl rfl rfl rfl (.t rfl _) rfl (by decide) (fun hG => Yd.ldB (pos := 0) rfl rfl rfl ON3 (.g rfl hG)) ?_
            refine W.g rfl rfl rfl rfl rfl (.t rfl _) rfl (by decide) (fun hG => Yd.mv rfl (.t rfl)) ?_
            refine W.g rfl rfl rfl rfl rfl (.t rfl _) rfl (by decide) (fun hG => Yd.lenR hclear_0 rfl Try.underlying22 (.g rfl hG)) ?_
            refine W.g rfl rfl rfl rfl rfl (.t rfl _) rfl (by decide) (fun hG => Yd.geq rfl (.g rfl hG) (.g rfl hG)) ?_
            refine W.q rfl rfl rfl rfl (by decide) (Yd.or rfl (.t rfl) .c rfl rfl) ?_
            refine W.q rfl rfl rfl rfl (by decide) (Yd.mv rfl (.t rfl)) ?_
            refine W.g rfl rfl rfl rfl rfl (.t rfl _) rfl (by decide) (fun hG => Yd.fldB rfl Try.underlying67 rfl SZ3 rfl (.t rfl)) ?_
            refine W.g rfl rfl rfl rfl rfl (.t rfl _) rfl (by decide) (fun hG => Yd.ldB (pos := 0) rfl rfl rfl ON3 (.g rfl hG)) ?_
            refine W.g rfl rfl rfl rfl rfl (.t rfl _) rfl (by decide) (fun hG => Yd.neq rfl (.g rfl hG) .c) ?_
            refine W.g rfl rfl rfl rfl rfl (.t rfl _) rfl (by decide) (fun hG => Yd.mv rfl (.g rfl hG)) ?_
            refine W.g rfl rfl rfl rfl rfl (.g rfl _) rfl (by decide) (fun hG => Yd.fldB rfl Try.underlying67 rfl SZ3 rfl (.t rfl)) ?_
            refine W.g rfl rfl rfl rfl rfl (.g rfl _) rfl (by decide) (fun hG => Yd.ldB (pos := 0) rfl rfl rfl ON3 (.g rfl hG)) ?_
            refine W.g rfl rfl rfl rfl rfl (.g rfl _) rfl (by decide) (fun hG => Yd.lss rfl (.g rfl hG) .c) ?_
            refine W.g rfl rfl rfl rfl rfl (.g rfl _) rfl (by decide) (fun hG => Yd.mv rfl (.g rfl hG)) ?_
            refine W.g rfl rfl rfl rfl rfl (.g rfl _) rfl (by decide) (fun hG => Yd.fldB rfl Try.underlying67 rfl SZ3 rfl (.t rfl)) ?_
            refine W.g rfl rfl rfl rfl rfl (.g rfl _) rfl (by decide) (fun hG => Yd.ldB (pos := 0) rfl rfl rfl ON3 (.g rfl hG)) ?_
            refine W.g rfl rfl rfl rfl rfl (.g rfl _) rfl (by decide) (fun hG => Yd.mv rfl (.t rfl)) ?_
            refine W.g rfl rfl rfl rfl rfl (.g rfl _) rfl (by decide) (fun hG => Yd.lenR hthings_1 rfl Try.underlying22 (.g rfl hG)) ?_
            refine W.g rfl rfl rfl rfl rfl (.g rfl _) rfl (by decide) (fun hG => Yd.geq rfl (.g rfl hG) (.g rfl hG)) ?_
            refine W.g rfl rfl rfl rfl rfl (.g rfl _) rfl (by decide) (fun hG => Yd.orG rfl (.g rfl hG) .c rfl rfl hG) ?_
            refine W.g rfl rfl rfl rfl rfl (.t rfl _) rfl (by decide) (fun hG => Yd.andG rfl (.g rfl hG) .c rfl rfl hG) ?_
            refine W.q rfl rfl rfl rfl (by decide) (Yd.or rfl (.t rfl) .c rfl rfl) ?_
            refine W.end ?_
            refine NX.sub (env' := [(0, _), (1, _), (3, _), (8, _), (9, _), (13, _), (52, _), (53, _), (54, _), (15, _), (16, _), (92, _)]) ⟨rfl, rfl, rfl, rfl, rfl, rfl, rfl, rfl, rfl, rfl, rfl, rfl, trivial⟩ ?_
            refine NX.then ?_
            refine Tr.cond (.t rfl) (fun hb => ?_) (fun hb => ?_)
            · have hr := cond_t hb hr
              refine Tr.region_f (fun _ => false) ?_
              refine W.q rfl rfl rfl rfl (by decide) (Yd.as rfl .c) ?_
              refine W.end ?_
              refine NX.sub (env' := [(0, _), (1, _), (3, _), (8, _), (9, _), (13, _), (52, _), (53, _), (54, _), (16, _)]) ⟨rfl, rfl, rfl, rfl, rfl, rfl, rfl, rfl, rfl, rfl, trivial⟩ ?_
              refine NX.drop (l' := hownT 63 1 encU v45 _ :: hcells b9 [_, _, _] 27 :: hownT 63 1 encU v47 _ :: hownT 65 2 Label.enc v49 _ :: hownT 28 1 encI v51 _ :: hcells b4 [_, _, _] 27 :: hownT 63 1 encU (.slice none 0 0) (([] : List (BitVec 32))) :: hownT 65 2 Label.enc (.slice none 0 0) (([] : List Label)) :: hownT 28 1 encI (.slice none 0 0) (([] : List Int)) :: l) (.cons _ (.cons_cons _ (.cons_cons _ (.cons_cons _ (.cons_cons _ (.cons_cons _ (.cons_cons _ (.cons_cons _ (.cons_cons _ (.cons_cons _ (.refl _))))))))))) ?_
              refine NX.sub (env' := [(0, _), (1, _), (3, _), (8, _), (9, _), (13, _), (52, _), (53, _), (54, _), (16, _)]) ⟨rfl, rfl, rfl, rfl, rfl, rfl, rfl, rfl, rfl, rfl, trivial⟩ ?_
              exact hk85 _ _ ⟨_, _, _, _, _, _, _, rfl, rfl, hr⟩
            · have hr := cond_f hb hr
              refine Tr.seq ?_
              refine Tr.region_f (fun _ => false) ?_
              refine W.q rfl rfl rfl rfl (by decide) (Yd.fldB rfl Try.underlying67 rfl SZ3 rfl (.t rfl)) ?_
              refine W.q rfl rfl rfl rfl (by decide) (Yd.ldB (pos := 0) rfl rfl rfl ON3 (.t rfl)) ?_
              refine W.q rfl rfl rfl rfl (by decide) (Yd.eql rfl (.t rfl) .c) ?_
              refine W.end ?_
              refine NX.sub (env' := [(0, _), (1, _), (3, _), (8, _), (9, _), (13, _), (52, _), (53, _), (54, _), (15, _), (16, _), (95, _)]) ⟨rfl, rfl, rfl, rfl, rfl, rfl, rfl, rfl, rfl, rfl, rfl, rfl, trivial⟩ ?_
              refine NX.then ?_
              refine Tr.cond (.t rfl) (fun hb => ?_) (fun hb => ?_)
              · have hr := cond_t hb hr
                refine Tr.seq ?_
                obtain ⟨y90, hy91, hr⟩ := bind_some hr
                obtain ⟨y92, hy93, hr⟩ := bind_some hr
                refine Tr.region_x (fun i => Nat.beq i 10) (fun i => Nat.beq i 10) (Ord.of [0, 1, 2, 3, 4, 5, 6, 7, 8, 9, 10]) FM (by kernel_rfl) ?_
                refine W.q rfl rfl rfl rfl (by decide) (Yd.fldB rfl Try.underlying27 rfl SZ22 rfl (.t rfl)) ?_
                refine W.q rfl rfl rfl rfl (by decide) (Yd.ldB (pos := 2) rfl rfl rfl ON22 (.t rfl)) ?_
                refine W.q rfl rfl rfl rfl (by decide) (Yd.fldB rfl Try.underlying67 rfl SZ3 rfl (.t rfl)) ?_
                refine W.q rfl rfl rfl rfl (by decide) (Yd.ldB (pos := 0) rfl rfl rfl ON3 (.t rfl)) ?_
                refine W.q rfl rfl rfl rfl (by decide) (Yd.mv rfl (.t rfl)) ?_
                refine W.q rfl rfl rfl rfl (by decide) (Yd.fldB rfl Try.underlying67 rfl SZ3 rfl (.t rfl)) ?_
                refine W.q rfl rfl rfl rfl (by decide) (Yd.ldB (pos := 0) rfl rfl rfl ON3 (.t rfl)) ?_
                refine W.q rfl rfl rfl rfl (by decide) (Yd.idxR hclear_0 hy91 rfl Try.underlying22 SZ65 (.t rfl) (.t rfl)) ?_
                refine W.q rfl rfl rfl rfl (by decide) (Yd.ldFs (us := [_, _]) hclear_0 (.refl _) hy91 rfl rfl ON65 US65 SZ65 (.t rfl)) ?_
                refine W.q rfl rfl rfl rfl (by decide) (Yd.idxT (pos := 4) rfl hy93 rfl Try.underlying22 SZ65 (.t rfl) (.t rfl)) ?_
                refine W.s rfl rfl rfl rfl (Ef.stT (enc := Label.enc) (n := 2) (pos := 4) (y := y90) (us := [_, _]) (fun _ => rfl) rfl hy93 rfl (.t rfl) (.t rfl) SZ65 rfl rfl rfl (by decide)) ?_
                rintro _ _ ⟨rfl, rfl⟩
                refine ⟨.inl rfl, ?_⟩
                refine W.cast (m' := m) (l' := hcells b75 [_, _, _, _, _, _] 67 :: hownT 63 1 encU v45 _ :: hcells b9 [_, _, _] 27 :: hownT 63 1 encU v47 _ :: hownT 65 2 Label.enc v49 _ :: hownT 28 1 encI v51 _ :: hcells b4 [_, _, _] 27 :: hownT 63 1 encU (.slice none 0 0) (([] : List (BitVec 32))) :: hownT 65 2 Label.enc (.slice none 0 0) (([] : List Label)) :: hownT 28 1 encI (.slice none 0 0) (([] : List Int)) :: l) rfl rfl ?_
                refine W.end ?_
                refine NX.sub (env' := [(0, _), (1, _), (3, _), (8, _), (9, _), (13, _), (52, _), (53, _), (54, _), (15, _), (16, _)]) ⟨rfl, rfl, rfl, rfl, rfl, rfl, rfl, rfl, rfl, rfl, rfl, trivial⟩ ?_
                refine NX.then ?_
                refine Tr.seq ?_
                refine Tr.seq ?_
                refine Tr.region_f (fun _ => false) ?_
                refine W.q rfl rfl rfl rfl (by decide) (Yd.mv rfl (.t rfl)) ?_
                refine W.end ?_
                refine NX.sub (env' := [(0, _), (1, _), (3, _), (8, _), (9, _), (13, _), (52, _), (53, _), (54, _), (15, _), (16, _), (106, _)]) ⟨rfl, rfl, rfl, rfl, rfl, rfl, rfl, rfl, rfl, rfl, rfl, rfl, trivial⟩ ?_
                refine NX.then ?_
                refine Tr.cond (.t rfl) (fun hb => ?_) (fun hb => ?_)
                · have hr := cond_t hb hr
                  obtain ⟨y94, hy95, hr⟩ := bind_some hr
                  refine Tr.region_f (fun i => Nat.beq i 6) ?_
                  refine W.q rfl rfl rfl rfl (by decide) (Yd.fldB rfl Try.underlying27 rfl SZ22 rfl (.t rfl)) ?_
                  refine W.q rfl rfl rfl rfl (by decide) (Yd.ldB (pos := 2) rfl rfl rfl ON22 (.t rfl)) ?_
                  refine W.q rfl rfl rfl rfl (by decide) (Yd.fldB rfl Try.underlying67 rfl SZ3 rfl (.t rfl)) ?_
                  refine W.q rfl rfl rfl rfl (by decide) (Yd.ldB (pos := 0) rfl rfl rfl ON3 (.t rfl)) ?_
                  refine W.q rfl rfl rfl rfl (by decide) (Yd.bld (cells := [.int .i64 ((0 : Int)), .int .u32 (((0#32)).toNat : Int)]) rfl ZI65 PL65 .nil rfl) ?_
                  refine W.q rfl rfl rfl rfl (by decide) (Yd.idxT (pos := 4) rfl hy95 rfl Try.underlying22 SZ65 (.t rfl) (.t rfl)) ?_
                  refine W.s rfl rfl rfl rfl (Ef.stT (enc := Label.enc) (n := 2) (pos := 4) (y := ({ level := (0 : Int), parts := (0#32) } : Label)) (us := [_, _]) (fun _ => rfl) rfl hy95 rfl (.t rfl) (.t rfl) SZ65 rfl rfl rfl (by decide)) ?_
                  rintro _ _ ⟨rfl, rfl⟩
                  refine ⟨.inl rfl, ?_⟩
                  refine W.cast (m' := m) (l' := hcells b75 [_, _, _, _, _, _] 67 :: hownT 63 1 encU v45 _ :: hcells b9 [_, _, _] 27 :: hownT 63 1 encU v47 _ :: hownT 65 2 Label.enc v49 _ :: hownT 28 1 encI v51 _ :: hcells b4 [_, _, _] 27 :: hownT 63 1 encU (.slice none 0 0) (([] : List (BitVec 32))) :: hownT 65 2 Label.enc (.slice none 0 0) (([] : List Label)) :: hownT 28 1 encI (.slice none 0 0) (([] : List Int)) :: l) rfl rfl ?_
                  refine W.end ?_
                  refine NX.sub (env' := [(0, _), (1, _), (3, _), (8, _), (9, _), (13, _), (52, _), (53, _), (54, _), (15, _), (16, _)]) ⟨rfl, rfl, rfl, rfl, rfl, rfl, rfl, rfl, rfl, rfl, rfl, trivial⟩ ?_
                  refine NX.then ?_
                  obtain ⟨y96, hy97, hr⟩ := bind_some hr
                  refine Tr.region_f (fun i => Nat.beq i 4) ?_
                  refine W.q rfl rfl rfl rfl (by decide) (Yd.mv rfl (.t rfl)) ?_
                  refine W.q rfl rfl rfl rfl (by decide) (Yd.fldB rfl Try.underlying67 rfl SZ3 rfl (.t rfl)) ?_
                  refine W.q rfl rfl rfl rfl (by decide) (Yd.ldB (pos := 0) rfl rfl rfl ON3 (.t rfl)) ?_
                  refine W.q rfl rfl rfl rfl (by decide) (Yd.idxT (pos := 1) rfl hy97 rfl Try.underlying25 SZ63 (.t rfl) (.t rfl)) ?_
                  refine W.s rfl rfl rfl rfl (Ef.stT (enc := encU) (n := 1) (pos := 1) (y := 0#32) (us := [_]) (fun _ => rfl) rfl hy97 rfl (.t rfl) .c SZ63 rfl rfl rfl (by decide)) ?_
                  rintro _ _ ⟨rfl, rfl⟩
                  refine ⟨.inl rfl, ?_⟩
                  refine W.cast (m' := m) (l' := hcells b75 [_, _, _, _, _, _] 67 :: hownT 63 1 encU v45 _ :: hcells b9 [_, _, _] 27 :: hownT 63 1 encU v47 _ :: hownT 65 2 Label.enc v49 _ :: hownT 28 1 encI v51 _ :: hcells b4 [_, _, _] 27 :: hownT 63 1 encU (.slice none 0 0) (([] : List (BitVec 32))) :: hownT 65 2 Label.enc (.slice none 0 0) (([] : List Label)) :: hownT 28 1 encI (.slice none 0 0) (([] : List Int)) :: l) rfl rfl ?_
                  refine W.end ?_
                  refine NX.sub (env' := [(0, _), (1, _), (3, _), (8, _), (9, _), (13, _), (52, _), (53, _), (54, _), (16, _)]) ⟨rfl, rfl, rfl, rfl, rfl, rfl, rfl, rfl, rfl, rfl, trivial⟩ ?_
                  refine NX.drop (l' := hownT 63 1 encU v45 _ :: hcells b9 [_, _, _] 27 :: hownT 63 1 encU v47 _ :: hownT 65 2 Label.enc v49 _ :: hownT 28 1 encI v51 _ :: hcells b4 [_, _, _] 27 :: hownT 63 1 encU (.slice none 0 0) (([] : List (BitVec 32))) :: hownT 65 2 Label.enc (.slice none 0 0) (([] : List Label)) :: hownT 28 1 encI (.slice none 0 0) (([] : List Int)) :: l) (.cons _ (.cons_cons _ (.cons_cons _ (.cons_cons _ (.cons_cons _ (.cons_cons _ (.cons_cons _ (.cons_cons _ (.cons_cons _ (.cons_cons _ (.refl _))))))))))) ?_
                  refine NX.sub (env' := [(0, _), (1, _), (3, _), (8, _), (9, _), (13, _), (52, _), (53, _), (54, _), (16, _)]) ⟨rfl, rfl, rfl, rfl, rfl, rfl, rfl, rfl, rfl, rfl, trivial⟩ ?_
                  exact hk85 _ _ ⟨_, _, _, _, _, _, _, rfl, rfl, hr⟩
                · have hr := cond_f hb hr
                  refine Tr.skip' ?_
                  refine NX.then ?_
                  obtain ⟨y98, hy99, hr⟩ := bind_some hr
                  refine Tr.region_f (fun i => Nat.beq i 4) ?_
                  refine W.q rfl rfl rfl rfl (by decide) (Yd.mv rfl (.t rfl)) ?_
                  refine W.q rfl rfl rfl rfl (by decide) (Yd.fldB rfl Try.underlying67 rfl SZ3 rfl (.t rfl)) ?_
                  refine W.q rfl rfl rfl rfl (by decide) (Yd.ldB (pos := 0) rfl rfl rfl ON3 (.t rfl)) ?_
                  refine W.q rfl rfl rfl rfl (by decide) (Yd.idxT (pos := 1) rfl hy99 rfl Try.underlying25 SZ63 (.t rfl) (.t rfl)) ?_
                  refine W.s rfl rfl rfl rfl (Ef.stT (enc := encU) (n := 1) (pos := 1) (y := 0#32) (us := [_]) (fun _ => rfl) rfl hy99 rfl (.t rfl) .c SZ63 rfl rfl rfl (by decide)) ?_
                  rintro _ _ ⟨rfl, rfl⟩
                  refine ⟨.inl rfl, ?_⟩
                  refine W.cast (m' := m) (l' := hcells b75 [_, _, _, _, _, _] 67 :: hownT 63 1 encU v45 _ :: hcells b9 [_, _, _] 27 :: hownT 63 1 encU v47 _ :: hownT 65 2 Label.enc v49 _ :: hownT 28 1 encI v51 _ :: hcells b4 [_, _, _] 27 :: hownT 63 1 encU (.slice none 0 0) (([] : List (BitVec 32))) :: hownT 65 2 Label.enc (.slice none 0 0) (([] : List Label)) :: hownT 28 1 encI (.slice none 0 0) (([] : List Int)) :: l) rfl rfl ?_
                  refine W.end ?_
                  refine NX.sub (env' := [(0, _), (1, _), (3, _), (8, _), (9, _), (13, _), (52, _), (53, _), (54, _), (16, _)]) ⟨rfl, rfl, rfl, rfl, rfl, rfl, rfl, rfl, rfl, rfl, trivial⟩ ?_
                  refine NX.drop (l' := hownT 63 1 encU v45 _ :: hcells b9 [_, _, _] 27 :: hownT 63 1 encU v47 _ :: hownT 65 2 Label.enc v49 _ :: hownT 28 1 encI v51 _ :: hcells b4 [_, _, _] 27 :: hownT 63 1 encU (.slice none 0 0) (([] : List (BitVec 32))) :: hownT 65 2 Label.enc (.slice none 0 0) (([] : List Label)) :: hownT 28 1 encI (.slice none 0 0) (([] : List Int)) :: l) (.cons _ (.cons_cons _ (.cons_cons _ (.cons_cons _ (.cons_cons _ (.cons_cons _ (.cons_cons _ (.cons_cons _ (.cons_cons _ (.cons_cons _ (.refl _))))))))))) ?_
                  refine NX.sub (env' := [(0, _), (1, _), (3, _), (8, _), (9, _), (13, _), (52, _), (53, _), (54, _), (16, _)]) ⟨rfl, rfl, rfl, rfl, rfl, rfl, rfl, rfl, rfl, rfl, trivial⟩ ?_
                  exact hk85 _ _ ⟨_, _, _, _, _, _, _, rfl, rfl, hr⟩
              · have hr := cond_f hb hr
                refine Tr.seq ?_
                refine Tr.region_f (fun _ => false) ?_
                refine W.q rfl rfl rfl rfl (by decide) (Yd.fldB rfl Try.underlying67 rfl SZ3 rfl (.t rfl)) ?_
                refine W.q rfl rfl rfl rfl (by decide) (Yd.ldB (pos := 0) rfl rfl rfl ON3 (.t rfl)) ?_
                refine W.q rfl rfl rfl rfl (by decide) (Yd.eql rfl (.t rfl) .c) ?_
                refine W.end ?_
                refine NX.sub (env' := [(0, _), (1, _), (3, _), (8, _), (9, _), (13, _), (52, _), (53, _), (54, _), (15, _), (16, _), (119, _)]) ⟨rfl, rfl, rfl, rfl, rfl, rfl, rfl, rfl, rfl, rfl, rfl, rfl, trivial⟩ ?_
                refine NX.then ?_
                refine Tr.cond (.t rfl) (fun hb => ?_) (fun hb => ?_)
                · have hr := cond_t hb hr
                  refine Tr.seq ?_
                  obtain ⟨y100, hy101, hr⟩ := bind_some hr
                  obtain ⟨y102, hy103, hr⟩ := bind_some hr
                  obtain ⟨r104, hr105, hr⟩ := bind_some hr
                  refine Tr.region_x (fun i => Nat.beq i 12 || Nat.beq i 13) (fun i => Nat.beq i 13) (Ord.of [0, 1, 2, 3, 4, 5, 6, 7, 8, 9, 10, 11, 12, 13]) FM (by kernel_rfl) ?_
                  refine W.q rfl rfl rfl rfl (by decide) (Yd.fldB rfl Try.underlying27 rfl SZ22 rfl (.t rfl)) ?_
                  refine W.q rfl rfl rfl rfl (by decide) (Yd.ldB (pos := 2) rfl rfl rfl ON22 (.t rfl)) ?_
                  refine W.q rfl rfl rfl rfl (by decide) (Yd.fldB rfl Try.underlying67 rfl SZ3 rfl (.t rfl)) ?_
                  refine W.q rfl rfl rfl rfl (by decide) (Yd.ldB (pos := 0) rfl rfl rfl ON3 (.t rfl)) ?_
                  refine W.q rfl rfl rfl rfl (by decide) (Yd.idxT (pos := 4) rfl hy101 rfl Try.underlying22 SZ65 (.t rfl) (.t rfl)) ?_
                  refine W.q rfl rfl rfl rfl (by decide) (Yd.ldTs (enc := Label.enc) (n := 2) (pos := 4) (us := [_, _]) (fun _ => rfl) rfl hy101 rfl (by decide) rfl ON65 US65 SZ65 (.t rfl)) ?_
                  refine W.q rfl rfl rfl rfl (by decide) (Yd.mv rfl (.t rfl)) ?_
                  refine W.q rfl rfl rfl rfl (by decide) (Yd.fldB rfl Try.underlying67 rfl SZ3 rfl (.t rfl)) ?_
                  refine W.q rfl rfl rfl rfl (by decide) (Yd.ldB (pos := 0) rfl rfl rfl ON3 (.t rfl)) ?_
                  refine W.q rfl rfl rfl rfl (by decide) (Yd.idxR hthings_1 hy103 rfl Try.underlying22 SZ65 (.t rfl) (.t rfl)) ?_
                  refine W.q rfl rfl rfl rfl (by decide) (Yd.ldFs (us := [_, _]) hthings_1 (.refl _) hy103 rfl rfl ON65 US65 SZ65 (.t rfl)) ?_
                  refine W.q rfl rfl rfl rfl (by decide) (Yd.call (v := .agg #[.int .i64 r104.level, .int .u32 (r104.parts.toNat : Int)]) rfl Try.func36 rfl rfl (.cons (.t rfl) (.cons (.t rfl) .nil)) (fun x' hx w hw => syllogistref_Common_ok w0 x'.m x'.l y100 y102 _ hr105 w hw)) ?_
                  refine W.e rfl rfl rfl rfl (by decide) (Ef.al rfl ZR65 rfl) ?_
                  rintro _ _ ⟨b106, rfl, rfl⟩
                  refine ⟨.inr ⟨.refl _, [_], rfl⟩, ?_⟩
                  refine W.cast (m' := m) (l' := hcells b106 [_, _] 65 :: hcells b75 [_, _, _, _, _, _] 67 :: hownT 63 1 encU v45 _ :: hcells b9 [_, _, _] 27 :: hownT 63 1 encU v47 _ :: hownT 65 2 Label.enc v49 _ :: hownT 28 1 encI v51 _ :: hcells b4 [_, _, _] 27 :: hownT 63 1 encU (.slice none 0 0) (([] : List (BitVec 32))) :: hownT 65 2 Label.enc (.slice none 0 0) (([] : List Label)) :: hownT 28 1 encI (.slice none 0 0) (([] : List Int)) :: l) rfl rfl ?_
                  refine W.s rfl rfl rfl rfl (Ef.stB (pos := 0) (us := [_, _]) (cs' := [_, _]) rfl rfl (.t rfl) (.t rfl) SZ65 rfl rfl rfl (Nat.le_of_ble_eq_true rfl) rfl) ?_
                  rintro _ _ ⟨rfl, rfl⟩
                  refine ⟨.inl rfl, ?_⟩
                  refine W.cast (m' := m) (l' := hcells b106 [_, _] 65 :: hcells b75 [_, _, _, _, _, _] 67 :: hownT 63 1 encU v45 _ :: hcells b9 [_, _, _] 27 :: hownT 63 1 encU v47 _ :: hownT 65 2 Label.enc v49 _ :: hownT 28 1 encI v51 _ :: hcells b4 [_, _, _] 27 :: hownT 63 1 encU (.slice none 0 0) (([] : List (BitVec 32))) :: hownT 65 2 Label.enc (.slice none 0 0) (([] : List Label)) :: hownT 28 1 encI (.slice none 0 0) (([] : List Int)) :: l) rfl rfl ?_
                  refine W.end ?_
                  refine NX.sub (env' := [(0, _), (1, _), (3, _), (8, _), (9, _), (13, _), (52, _), (53, _), (54, _), (15, _), (16, _), (17, _)]) ⟨rfl, rfl, rfl, rfl, rfl, rfl, rfl, rfl, rfl, rfl, rfl, rfl, trivial⟩ ?_
                  refine NX.then ?_
                  refine Tr.seq ?_
                  refine Tr.seq ?_
                  refine Tr.region_f (fun _ => false) ?_
                  refine W.q rfl rfl rfl rfl (by decide) (Yd.mv rfl (.t rfl)) ?_
                  refine W.end ?_
                  refine NX.sub (env' := [(0, _), (1, _), (3, _), (8, _), (9, _), (13, _), (52, _), (53, _), (54, _), (15, _), (16, _), (17, _), (132, _)]) ⟨rfl, rfl, rfl, rfl, rfl, rfl, rfl, rfl, rfl, rfl, rfl, rfl, rfl, trivial⟩ ?_
                  refine NX.then ?_
                  refine Tr.join (S := fun env x => ∃ c108 : Int, ∃ c109 : BitVec 32, env = [(0, uclear_0), (1, uthings_1), (3, .bool up_3), (8, bp b4 0), (9, bp b9 0), (13, v45), (52, uscript_2), (53, .int .i64 ((script_2.length : Int))), (54, .int .i64 t_69), (15, bp b75 0), (16, .int .i64 ((0 : Int))), (17, bp b106 0)] ∧ x = ⟨m, hcells b106 [.int .i64 c108, .int .u32 (c109.toNat : Int)] 65 :: hcells b75 [.int .i64 y73.kind, .int .i64 y73.by_, .int .i64 y73.to, .int .i64 y73.label.level, .int .u32 (y73.label.parts.toNat : Int), .int .i64 y73.val] 67 :: hownT 63 1 encU v45 l44 :: hcells b9 [v51, v49, v47] 27 :: hownT 63 1 encU v47 l46 :: hownT 65 2 Label.enc v49 l48 :: hownT 28 1 encI v51 l50 :: hcells b4 [(.slice none 0 0), (.slice none 0 0), (.slice none 0 0)] 27 :: hownT 63 1 encU (.slice none 0 0) (([] : List (BitVec 32))) :: hownT 65 2 Label.enc (.slice none 0 0) (([] : List Label)) :: hownT 28 1 encI (.slice none 0 0) (([] : List Int)) :: l⟩ ∧ syllogistref_Mark_k110 clear_0 up_3 l44 l46 l48 l50 nx71 y73 c108 c109 = some r) ?_ (fun hk111 => ?_)
                  · rintro _ _ ⟨c108, c109, rfl, rfl, hr⟩
                    unfold syllogistref_Mark_k110 at hr
                    try dsimp only at hr
                    refine NX.then ?_
                    refine Tr.seq ?_
                    obtain ⟨ha112, hr⟩ := guard_some hr
                    obtain ⟨ha113, hr⟩ := guard_some hr
                    refine Tr.region_x (fun _ => false) (fun _ => false) (Ord.of [0, 1, 2, 3, 4, 5, 6, 7, 8, 9, 10]) FM (by kernel_rfl) ?_
                    refine W.q rfl rfl rfl rfl (by decide) (Yd.mv rfl (.t rfl)) ?_
                    refine W.q rfl rfl rfl rfl (by decide) (Yd.mv rfl (.t rfl)) ?_
                    refine W.g rfl rfl rfl rfl rfl (.t rfl _) rfl (by decide) (fun hG => Yd.ldBs (pos := 0) (us := [_, _]) rfl rfl rfl rfl ON65 US65 SZ65 (.t rfl)) ?_
                    refine W.g rfl rfl rfl rfl rfl (.t rfl _) rfl (by decide) (fun hG => Yd.mv rfl (.t rfl)) ?_
                    refine W.g rfl rfl rfl rfl rfl (.t rfl _) rfl (by decide) (fun hG => Yd.fldB rfl Try.underlying67 rfl SZ3 rfl (.t rfl)) ?_
                    refine W.g rfl rfl rfl rfl rfl (.t rfl _) rfl (by decide) (fun hG => Yd.ldB (pos := 1) rfl rfl rfl ON3 (.g rfl hG)) ?_
                    refine W.g rfl rfl rfl rfl rfl (.t rfl _) rfl (by decide) (fun hG => Yd.idxR hclear_0 (gd_get (d := ({ level := (0 : Int), parts := (0#32) } : Label)) ha112 hG) rfl Try.underlying22 SZ65 (.g rfl hG) (.g rfl hG)) ?_
                    refine W.g rfl rfl rfl rfl rfl (.t rfl _) rfl (by decide) (fun hG => Yd.ldFs (us := [_, _]) hclear_0 (.refl _) (gd_get (d := ({ level := (0 : Int), parts := (0#32) } : Label)) ha112 hG) rfl rfl ON65 US65 SZ65 (.g rfl hG)) ?_
                    refine W.g rfl rfl rfl rfl rfl (.t rfl _) rfl (by decide) (fun hG => Yd.call (v := .bool ((((syllogistref_Below (({ level := c108, parts := c109 } : Label)) (((geti clear_0 y73.by_).getD ({ level := (0 : Int), parts := (0#32) } : Label)))).getD false)))) rfl Try.func38 rfl rfl (.cons (.g rfl hG) (.cons (.g rfl hG) .nil)) (fun x' hx w hw => syllogistref_Below_ok w0 x'.m x'.l (({ level := c108, parts := c109 } : Label)) (((geti clear_0 y73.by_).getD ({ level := (0 : Int), parts := (0#32) } : Label))) _ (gd_get (d := false) ha113 hG) w hw)) ?_
                    refine W.g rfl rfl rfl rfl rfl (.t rfl _) rfl (by decide) (fun hG => Yd.not rfl (.g rfl hG)) ?_
                    refine W.q rfl rfl rfl rfl (by decide) (Yd.and rfl (.t rfl) .c rfl rfl) ?_
                    refine W.end ?_
                    refine NX.sub (env' := [(0, _), (1, _), (3, _), (8, _), (9, _), (13, _), (52, _), (53, _), (54, _), (15, _), (16, _), (17, _), (155, _)]) ⟨rfl, rfl, rfl, rfl, rfl, rfl, rfl, rfl, rfl, rfl, rfl, rfl, rfl, trivial⟩ ?_
                    refine NX.then ?_
                    refine Tr.cond (.t rfl) (fun hb => ?_) (fun hb => ?_)
                    · have hr := cond_t hb hr
                      refine Tr.region_f (fun _ => false) ?_
                      refine W.q rfl rfl rfl rfl (by decide) (Yd.as rfl .c) ?_
                      refine W.end ?_
                      refine NX.sub (env' := [(0, _), (1, _), (3, _), (8, _), (9, _), (13, _), (52, _), (53, _), (54, _), (16, _)]) ⟨rfl, rfl, rfl, rfl, rfl, rfl, rfl, rfl, rfl, rfl, trivial⟩ ?_
                      refine NX.drop (l' := hownT 63 1 encU v45 _ :: hcells b9 [_, _, _] 27 :: hownT 63 1 encU v47 _ :: hownT 65 2 Label.enc v49 _ :: hownT 28 1 encI v51 _ :: hcells b4 [_, _, _] 27 :: hownT 63 1 encU (.slice none 0 0) (([] : List (BitVec 32))) :: hownT 65 2 Label.enc (.slice none 0 0) (([] : List Label)) :: hownT 28 1 encI (.slice none 0 0) (([] : List Int)) :: l) (.cons _ (.cons _ (.cons_cons _ (.cons_cons _ (.cons_cons _ (.cons_cons _ (.cons_cons _ (.cons_cons _ (.cons_cons _ (.cons_cons _ (.cons_cons _ (.refl _)))))))))))) ?_
                      refine NX.sub (env' := [(0, _), (1, _), (3, _), (8, _), (9, _), (13, _), (52, _), (53, _), (54, _), (16, _)]) ⟨rfl, rfl, rfl, rfl, rfl, rfl, rfl, rfl, rfl, rfl, trivial⟩ ?_
                      exact hk85 _ _ ⟨_, _, _, _, _, _, _, rfl, rfl, hr⟩
                    · have hr := cond_f hb hr
                      refine Tr.seq ?_
                      obtain ⟨y114, hy115, hr⟩ := bind_some hr
                      refine Tr.region_f (fun i => Nat.beq i 6) ?_
                      refine W.q rfl rfl rfl rfl (by decide) (Yd.fldB rfl Try.underlying27 rfl SZ22 rfl (.t rfl)) ?_
                      refine W.q rfl rfl rfl rfl (by decide) (Yd.ldB (pos := 3) rfl rfl rfl ON22 (.t rfl)) ?_
                      refine W.q rfl rfl rfl rfl (by decide) (Yd.fldB rfl Try.underlying67 rfl SZ3 rfl (.t rfl)) ?_
                      refine W.q rfl rfl rfl rfl (by decide) (Yd.ldB (pos := 1) rfl rfl rfl ON3 (.t rfl)) ?_
                      refine W.q rfl rfl rfl rfl (by decide) (Yd.ldBs (pos := 0) (us := [_, _]) rfl rfl rfl rfl ON65 US65 SZ65 (.t rfl)) ?_
                      refine W.q rfl rfl rfl rfl (by decide) (Yd.idxT (pos := 5) rfl hy115 rfl Try.underlying22 SZ65 (.t rfl) (.t rfl)) ?_
                      refine W.s rfl rfl rfl rfl (Ef.stT (enc := Label.enc) (n := 2) (pos := 5) (y := ({ level := c108, parts := c109 } : Label)) (us := [_, _]) (fun _ => rfl) rfl hy115 rfl (.t rfl) (.t rfl) SZ65 rfl rfl rfl (by decide)) ?_
                      rintro _ _ ⟨rfl, rfl⟩
                      refine ⟨.inl rfl, ?_⟩
                      refine W.cast (m' := m) (l' := hcells b106 [_, _] 65 :: hcells b75 [_, _, _, _, _, _] 67 :: hownT 63 1 encU v45 _ :: hcells b9 [_, _, _] 27 :: hownT 63 1 encU v47 _ :: hownT 65 2 Label.enc v49 _ :: hownT 28 1 encI v51 _ :: hcells b4 [_, _, _] 27 :: hownT 63 1 encU (.slice none 0 0) (([] : List (BitVec 32))) :: hownT 65 2 Label.enc (.slice none 0 0) (([] : List Label)) :: hownT 28 1 encI (.slice none 0 0) (([] : List Int)) :: l) rfl rfl ?_
                      refine W.end ?_
                      refine NX.sub (env' := [(0, _), (1, _), (3, _), (8, _), (9, _), (13, _), (52, _), (53, _), (54, _), (15, _), (16, _)]) ⟨rfl, rfl, rfl, rfl, rfl, rfl, rfl, rfl, rfl, rfl, rfl, trivial⟩ ?_
                      refine NX.drop (l' := hcells b75 [_, _, _, _, _, _] 67 :: hownT 63 1 encU v45 _ :: hcells b9 [_, _, _] 27 :: hownT 63 1 encU v47 _ :: hownT 65 2 Label.enc v49 _ :: hownT 28 1 encI v51 _ :: hcells b4 [_, _, _] 27 :: hownT 63 1 encU (.slice none 0 0) (([] : List (BitVec 32))) :: hownT 65 2 Label.enc (.slice none 0 0) (([] : List Label)) :: hownT 28 1 encI (.slice none 0 0) (([] : List Int)) :: l) (.cons _ (.cons_cons _ (.cons_cons _ (.cons_cons _ (.cons_cons _ (.cons_cons _ (.cons_cons _ (.cons_cons _ (.cons_cons _ (.cons_cons _ (.cons_cons _ (.refl _)))))))))))) ?_
                      refine NX.then ?_
                      obtain ⟨y116, hy117, hr⟩ := bind_some hr
                      obtain ⟨y118, hy119, hr⟩ := bind_some hr
                      refine Tr.region_x (fun i => Nat.beq i 16) (fun i => Nat.beq i 16) (Ord.of [0, 1, 2, 3, 4, 5, 6, 7, 8, 9, 10, 11, 12, 13, 14, 15, 16]) FM (by kernel_rfl) ?_
                      refine W.q rfl rfl rfl rfl (by decide) (Yd.mv rfl (.t rfl)) ?_
                      refine W.q rfl rfl rfl rfl (by decide) (Yd.fldB rfl Try.underlying67 rfl SZ3 rfl (.t rfl)) ?_
                      refine W.q rfl rfl rfl rfl (by decide) (Yd.ldB (pos := 0) rfl rfl rfl ON3 (.t rfl)) ?_
                      refine W.q rfl rfl rfl rfl (by decide) (Yd.mv rfl (.t rfl)) ?_
                      refine W.q rfl rfl rfl rfl (by decide) (Yd.fldB rfl Try.underlying67 rfl SZ3 rfl (.t rfl)) ?_
                      refine W.q rfl rfl rfl rfl (by decide) (Yd.ldB (pos := 0) rfl rfl rfl ON3 (.t rfl)) ?_
                      refine W.q rfl rfl rfl rfl (by decide) (Yd.idxT (pos := 1) rfl hy117 rfl Try.underlying25 SZ63 (.t rfl) (.t rfl)) ?_
                      refine W.q rfl rfl rfl rfl (by decide) (Yd.ldT (enc := encU) (n := 1) (pos := 1) (fun _ => rfl) rfl hy117 rfl rfl ON63 (.t rfl)) ?_
                      refine W.q rfl rfl rfl rfl (by decide) (Yd.fldB rfl Try.underlying27 rfl SZ25 rfl (.t rfl)) ?_
                      refine W.q rfl rfl rfl rfl (by decide) (Yd.ldB (pos := 2) rfl rfl rfl ON25 (.t rfl)) ?_
                      refine W.q rfl rfl rfl rfl (by decide) (Yd.fldB rfl Try.underlying67 rfl SZ3 rfl (.t rfl)) ?_
                      refine W.q rfl rfl rfl rfl (by decide) (Yd.ldB (pos := 0) rfl rfl rfl ON3 (.t rfl)) ?_
                      refine W.q rfl rfl rfl rfl (by decide) (Yd.idxT (pos := 3) rfl hy119 rfl Try.underlying25 SZ63 (.t rfl) (.t rfl)) ?_
                      refine W.q rfl rfl rfl rfl (by decide) (Yd.ldT (enc := encU) (n := 1) (pos := 3) (fun _ => rfl) rfl hy119 rfl rfl ON63 (.t rfl)) ?_
                      refine W.q rfl rfl rfl rfl (by decide) (Yd.orU (a := y116) (b := y118) rfl (.t rfl) (.t rfl)) ?_
                      refine W.q rfl rfl rfl rfl (by decide) (Yd.idxT (pos := 1) rfl hy117 rfl Try.underlying25 SZ63 (.t rfl) (.t rfl)) ?_
                      refine W.s rfl rfl rfl rfl (Ef.stT (enc := encU) (n := 1) (pos := 1) (y := (y116 ||| y118)) (us := [_]) (fun _ => rfl) rfl hy117 rfl (.t rfl) (.t rfl) SZ63 rfl rfl rfl (by decide)) ?_
                      rintro _ _ ⟨rfl, rfl⟩
                      refine ⟨.inl rfl, ?_⟩
                      refine W.cast (m' := m) (l' := hcells b75 [_, _, _, _, _, _] 67 :: hownT 63 1 encU v45 _ :: hcells b9 [_, _, _] 27 :: hownT 63 1 encU v47 _ :: hownT 65 2 Label.enc v49 _ :: hownT 28 1 encI v51 _ :: hcells b4 [_, _, _] 27 :: hownT 63 1 encU (.slice none 0 0) (([] : List (BitVec 32))) :: hownT 65 2 Label.enc (.slice none 0 0) (([] : List Label)) :: hownT 28 1 encI (.slice none 0 0) (([] : List Int)) :: l) rfl rfl ?_
                      refine W.end ?_
                      refine NX.sub (env' := [(0, _), (1, _), (3, _), (8, _), (9, _), (13, _), (52, _), (53, _), (54, _), (16, _)]) ⟨rfl, rfl, rfl, rfl, rfl, rfl, rfl, rfl, rfl, rfl, trivial⟩ ?_
                      refine NX.drop (l' := hownT 63 1 encU v45 _ :: hcells b9 [_, _, _] 27 :: hownT 63 1 encU v47 _ :: hownT 65 2 Label.enc v49 _ :: hownT 28 1 encI v51 _ :: hcells b4 [_, _, _] 27 :: hownT 63 1 encU (.slice none 0 0) (([] : List (BitVec 32))) :: hownT 65 2 Label.enc (.slice none 0 0) (([] : List Label)) :: hownT 28 1 encI (.slice none 0 0) (([] : List Int)) :: l) (.cons _ (.cons_cons _ (.cons_cons _ (.cons_cons _ (.cons_cons _ (.cons_cons _ (.cons_cons _ (.cons_cons _ (.cons_cons _ (.cons_cons _ (.refl _))))))))))) ?_
                      refine NX.sub (env' := [(0, _), (1, _), (3, _), (8, _), (9, _), (13, _), (52, _), (53, _), (54, _), (16, _)]) ⟨rfl, rfl, rfl, rfl, rfl, rfl, rfl, rfl, rfl, rfl, trivial⟩ ?_
                      exact hk85 _ _ ⟨_, _, _, _, _, _, _, rfl, rfl, hr⟩
                  refine Tr.cond (.t rfl) (fun hb => ?_) (fun hb => ?_)
                  · have hr := cond_t hb hr
                    obtain ⟨y120, hy121, hr⟩ := bind_some hr
                    obtain ⟨y122, hy123, hr⟩ := bind_some hr
                    obtain ⟨r124, hr125, hr⟩ := bind_some hr
                    refine Tr.region_x (fun i => Nat.beq i 12) (fun i => Nat.beq i 12) (Ord.of [0, 1, 2, 3, 4, 5, 6, 7, 8, 9, 10, 11, 12]) FM (by kernel_rfl) ?_
                    refine W.q rfl rfl rfl rfl (by decide) (Yd.fldB rfl Try.underlying27 rfl SZ22 rfl (.t rfl)) ?_
                    refine W.q rfl rfl rfl rfl (by decide) (Yd.ldB (pos := 3) rfl rfl rfl ON22 (.t rfl)) ?_
                    refine W.q rfl rfl rfl rfl (by decide) (Yd.fldB rfl Try.underlying67 rfl SZ3 rfl (.t rfl)) ?_
                    refine W.q rfl rfl rfl rfl (by decide) (Yd.ldB (pos := 1) rfl rfl rfl ON3 (.t rfl)) ?_
                    refine W.q rfl rfl rfl rfl (by decide) (Yd.idxT (pos := 5) rfl hy121 rfl Try.underlying22 SZ65 (.t rfl) (.t rfl)) ?_
                    refine W.q rfl rfl rfl rfl (by decide) (Yd.ldTs (enc := Label.enc) (n := 2) (pos := 5) (us := [_, _]) (fun _ => rfl) rfl hy121 rfl (by decide) rfl ON65 US65 SZ65 (.t rfl)) ?_
                    refine W.q rfl rfl rfl rfl (by decide) (Yd.mv rfl (.t rfl)) ?_
                    refine W.q rfl rfl rfl rfl (by decide) (Yd.fldB rfl Try.underlying67 rfl SZ3 rfl (.t rfl)) ?_
                    refine W.q rfl rfl rfl rfl (by decide) (Yd.ldB (pos := 1) rfl rfl rfl ON3 (.t rfl)) ?_
                    refine W.q rfl rfl rfl rfl (by decide) (Yd.idxR hthings_1 hy123 rfl Try.underlying22 SZ65 (.t rfl) (.t rfl)) ?_
                    refine W.q rfl rfl rfl rfl (by decide) (Yd.ldFs (us := [_, _]) hthings_1 (.refl _) hy123 rfl rfl ON65 US65 SZ65 (.t rfl)) ?_
                    refine W.q rfl rfl rfl rfl (by decide) (Yd.call (v := .agg #[.int .i64 r124.level, .int .u32 (r124.parts.toNat : Int)]) rfl Try.func37 rfl rfl (.cons (.t rfl) (.cons (.t rfl) .nil)) (fun x' hx w hw => syllogistref_Both_ok w0 x'.m x'.l y120 y122 _ hr125 w hw)) ?_
                    refine W.s rfl rfl rfl rfl (Ef.stB (pos := 0) (us := [_, _]) (cs' := [_, _]) rfl rfl (.t rfl) (.t rfl) SZ65 rfl rfl rfl (Nat.le_of_ble_eq_true rfl) rfl) ?_
                    rintro _ _ ⟨rfl, rfl⟩
                    refine ⟨.inl rfl, ?_⟩
                    refine W.cast (m' := m) (l' := hcells b106 [_, _] 65 :: hcells b75 [_, _, _, _, _, _] 67 :: hownT 63 1 encU v45 _ :: hcells b9 [_, _, _] 27 :: hownT 63 1 encU v47 _ :: hownT 65 2 Label.enc v49 _ :: hownT 28 1 encI v51 _ :: hcells b4 [_, _, _] 27 :: hownT 63 1 encU (.slice none 0 0) (([] : List (BitVec 32))) :: hownT 65 2 Label.enc (.slice none 0 0) (([] : List Label)) :: hownT 28 1 encI (.slice none 0 0) (([] : List Int)) :: l) rfl rfl ?_
                    refine W.end ?_
                    refine NX.sub (env' := [(0, _), (1, _), (3, _), (8, _), (9, _), (13, _), (52, _), (53, _), (54, _), (15, _), (16, _), (17, _)]) ⟨rfl, rfl, rfl, rfl, rfl, rfl, rfl, rfl, rfl, rfl, rfl, rfl, trivial⟩ ?_
                    refine NX.sub (env' := [(0, _), (1, _), (3, _), (8, _), (9, _), (13, _), (52, _), (53, _), (54, _), (15, _), (16, _), (17, _)]) ⟨rfl, rfl, rfl, rfl, rfl, rfl, rfl, rfl, rfl, rfl, rfl, rfl, trivial⟩ ?_
                    exact hk111 _ _ ⟨_, _, rfl, rfl, hr⟩
                  · have hr := cond_f hb hr
                    refine Tr.skip' ?_
                    refine NX.sub (env' := [(0, _), (1, _), (3, _), (8, _), (9, _), (13, _), (52, _), (53, _), (54, _), (15, _), (16, _), (17, _)]) ⟨rfl, rfl, rfl, rfl, rfl, rfl, rfl, rfl, rfl, rfl, rfl, rfl, trivial⟩ ?_
                    exact hk111 _ _ ⟨_, _, rfl, rfl, hr⟩
                · have hr := cond_f hb hr
                  refine Tr.seq ?_
                  obtain ⟨y126, hy127, hr⟩ := bind_some hr
                  obtain ⟨y128, hy129, hr⟩ := bind_some hr
                  obtain ⟨r130, hr131, hr⟩ := bind_some hr
                  refine Tr.region_x (fun _ => false) (fun _ => false) (Ord.of [0, 1, 2, 3, 4, 5, 6, 7, 8, 9, 10, 11, 12]) FM (by kernel_rfl) ?_
                  refine W.q rfl rfl rfl rfl (by decide) (Yd.mv rfl (.t rfl)) ?_
                  refine W.q rfl rfl rfl rfl (by decide) (Yd.fldB rfl Try.underlying67 rfl SZ3 rfl (.t rfl)) ?_
                  refine W.q rfl rfl rfl rfl (by decide) (Yd.ldB (pos := 0) rfl rfl rfl ON3 (.t rfl)) ?_
                  refine W.q rfl rfl rfl rfl (by decide) (Yd.idxR hthings_1 hy127 rfl Try.underlying22 SZ65 (.t rfl) (.t rfl)) ?_
                  refine W.q rfl rfl rfl rfl (by decide) (Yd.ldFs (us := [_, _]) hthings_1 (.refl _) hy127 rfl rfl ON65 US65 SZ65 (.t rfl)) ?_
                  refine W.q rfl rfl rfl rfl (by decide) (Yd.fldB rfl Try.underlying27 rfl SZ22 rfl (.t rfl)) ?_
                  refine W.q rfl rfl rfl rfl (by decide) (Yd.ldB (pos := 2) rfl rfl rfl ON22 (.t rfl)) ?_
                  refine W.q rfl rfl rfl rfl (by decide) (Yd.fldB rfl Try.underlying67 rfl SZ3 rfl (.t rfl)) ?_
                  refine W.q rfl rfl rfl rfl (by decide) (Yd.ldB (pos := 0) rfl rfl rfl ON3 (.t rfl)) ?_
                  refine W.q rfl rfl rfl rfl (by decide) (Yd.idxT (pos := 4) rfl hy129 rfl Try.underlying22 SZ65 (.t rfl) (.t rfl)) ?_
                  refine W.q rfl rfl rfl rfl (by decide) (Yd.ldTs (enc := Label.enc) (n := 2) (pos := 4) (us := [_, _]) (fun _ => rfl) rfl hy129 rfl (by decide) rfl ON65 US65 SZ65 (.t rfl)) ?_
                  refine W.q rfl rfl rfl rfl (by decide) (Yd.call (v := .bool r130) rfl Try.func38 rfl rfl (.cons (.t rfl) (.cons (.t rfl) .nil)) (fun x' hx w hw => syllogistref_Below_ok w0 x'.m x'.l y126 y128 _ hr131 w hw)) ?_
                  refine W.q rfl rfl rfl rfl (by decide) (Yd.as rfl (.t rfl)) ?_
                  refine W.end ?_
                  refine NX.sub (env' := [(0, _), (1, _), (3, _), (8, _), (9, _), (13, _), (52, _), (53, _), (54, _), (15, _), (16, _), (18, _)]) ⟨rfl, rfl, rfl, rfl, rfl, rfl, rfl, rfl, rfl, rfl, rfl, rfl, trivial⟩ ?_
                  refine NX.then ?_
                  refine Tr.seq ?_
                  refine Tr.seq ?_
                  refine Tr.region_f (fun _ => false) ?_
                  refine W.q rfl rfl rfl rfl (by decide) (Yd.mv rfl (.t rfl)) ?_
                  refine W.end ?_
                  refine NX.sub (env' := [(0, _), (1, _), (3, _), (8, _), (9, _), (13, _), (52, _), (53, _), (54, _), (15, _), (16, _), (18, _), (190, _)]) ⟨rfl, rfl, rfl, rfl, rfl, rfl, rfl, rfl, rfl, rfl, rfl, rfl, rfl, trivial⟩ ?_
                  refine NX.then ?_
                  refine Tr.join (S := fun env x => ∃ ok_132 : Bool, env = [(0, uclear_0), (1, uthings_1), (3, .bool up_3), (8, bp b4 0), (9, bp b9 0), (13, v45), (52, uscript_2), (53, .int .i64 ((script_2.length : Int))), (54, .int .i64 t_69), (15, bp b75 0), (16, .int .i64 ((0 : Int))), (18, .bool ok_132)] ∧ x = ⟨m, hcells b75 [.int .i64 y73.kind, .int .i64 y73.by_, .int .i64 y73.to, .int .i64 y73.label.level, .int .u32 (y73.label.parts.toNat : Int), .int .i64 y73.val] 67 :: hownT 63 1 encU v45 l44 :: hcells b9 [v51, v49, v47] 27 :: hownT 63 1 encU v47 l46 :: hownT 65 2 Label.enc v49 l48 :: hownT 28 1 encI v51 l50 :: hcells b4 [(.slice none 0 0), (.slice none 0 0), (.slice none 0 0)] 27 :: hownT 63 1 encU (.slice none 0 0) (([] : List (BitVec 32))) :: hownT 65 2 Label.enc (.slice none 0 0) (([] : List Label)) :: hownT 28 1 encI (.slice none 0 0) (([] : List Int)) :: l⟩ ∧ syllogistref_Mark_k133 l44 l46 l48 l50 nx71 y73 ok_132 = some r) ?_ (fun hk134 => ?_)
                  · rintro _ _ ⟨ok_132, rfl, rfl, hr⟩
                    unfold syllogistref_Mark_k133 at hr
                    try dsimp only at hr
                    refine NX.then ?_
                    refine Tr.seq ?_
                    refine Tr.region_f (fun _ => false) ?_
                    refine W.q rfl rfl rfl rfl (by decide) (Yd.mv rfl (.t rfl)) ?_
                    refine W.q rfl rfl rfl rfl (by decide) (Yd.not rfl (.t rfl)) ?_
                    refine W.end ?_
                    refine NX.sub (env' := [(0, _), (1, _), (3, _), (8, _), (9, _), (13, _), (52, _), (53, _), (54, _), (15, _), (16, _), (204, _)]) ⟨rfl, rfl, rfl, rfl, rfl, rfl, rfl, rfl, rfl, rfl, rfl, rfl, trivial⟩ ?_
                    refine NX.then ?_
                    refine Tr.cond (.t rfl) (fun hb => ?_) (fun hb => ?_)
                    · have hr := cond_t hb hr
                      refine Tr.region_f (fun _ => false) ?_
                      refine W.q rfl rfl rfl rfl (by decide) (Yd.as rfl .c) ?_
                      refine W.end ?_
                      refine NX.sub (env' := [(0, _), (1, _), (3, _), (8, _), (9, _), (13, _), (52, _), (53, _), (54, _), (16, _)]) ⟨rfl, rfl, rfl, rfl, rfl, rfl, rfl, rfl, rfl, rfl, trivial⟩ ?_
                      refine NX.drop (l' := hownT 63 1 encU v45 _ :: hcells b9 [_, _, _] 27 :: hownT 63 1 encU v47 _ :: hownT 65 2 Label.enc v49 _ :: hownT 28 1 encI v51 _ :: hcells b4 [_, _, _] 27 :: hownT 63 1 encU (.slice none 0 0) (([] : List (BitVec 32))) :: hownT 65 2 Label.enc (.slice none 0 0) (([] : List Label)) :: hownT 28 1 encI (.slice none 0 0) (([] : List Int)) :: l) (.cons _ (.cons_cons _ (.cons_cons _ (.cons_cons _ (.cons_cons _ (.cons_cons _ (.cons_cons _ (.cons_cons _ (.cons_cons _ (.cons_cons _ (.refl _))))))))))) ?_
                      refine NX.sub (env' := [(0, _), (1, _), (3, _), (8, _), (9, _), (13, _), (52, _), (53, _), (54, _), (16, _)]) ⟨rfl, rfl, rfl, rfl, rfl, rfl, rfl, rfl, rfl, rfl, trivial⟩ ?_
                      exact hk85 _ _ ⟨_, _, _, _, _, _, _, rfl, rfl, hr⟩
                    · have hr := cond_f hb hr
                      obtain ⟨y135, hy136, hr⟩ := bind_some hr
                      obtain ⟨y137, hy138, hr⟩ := bind_some hr
                      refine Tr.region_x (fun i => Nat.beq i 17) (fun i => Nat.beq i 17) (Ord.of [0, 1, 2, 3, 4, 5, 6, 7, 8, 9, 10, 11, 12, 13, 14, 15, 16, 17]) FM (by kernel_rfl) ?_
                      refine W.q rfl rfl rfl rfl (by decide) (Yd.fldB rfl Try.underlying27 rfl SZ25 rfl (.t rfl)) ?_
                      refine W.q rfl rfl rfl rfl (by decide) (Yd.ldB (pos := 2) rfl rfl rfl ON25 (.t rfl)) ?_
                      refine W.q rfl rfl rfl rfl (by decide) (Yd.fldB rfl Try.underlying67 rfl SZ3 rfl (.t rfl)) ?_
                      refine W.q rfl rfl rfl rfl (by decide) (Yd.ldB (pos := 0) rfl rfl rfl ON3 (.t rfl)) ?_
                      refine W.q rfl rfl rfl rfl (by decide) (Yd.fldB rfl Try.underlying27 rfl SZ25 rfl (.t rfl)) ?_
                      refine W.q rfl rfl rfl rfl (by decide) (Yd.ldB (pos := 2) rfl rfl rfl ON25 (.t rfl)) ?_
                      refine W.q rfl rfl rfl rfl (by decide) (Yd.fldB rfl Try.underlying67 rfl SZ3 rfl (.t rfl)) ?_
                      refine W.q rfl rfl rfl rfl (by decide) (Yd.ldB (pos := 0) rfl rfl rfl ON3 (.t rfl)) ?_
                      refine W.q rfl rfl rfl rfl (by decide) (Yd.idxT (pos := 3) rfl hy136 rfl Try.underlying25 SZ63 (.t rfl) (.t rfl)) ?_
                      refine W.q rfl rfl rfl rfl (by decide) (Yd.ldT (enc := encU) (n := 1) (pos := 3) (fun _ => rfl) rfl hy136 rfl rfl ON63 (.t rfl)) ?_
                      refine W.q rfl rfl rfl rfl (by decide) (Yd.mv rfl (.t rfl)) ?_
                      refine W.q rfl rfl rfl rfl (by decide) (Yd.fldB rfl Try.underlying67 rfl SZ3 rfl (.t rfl)) ?_
                      refine W.q rfl rfl rfl rfl (by decide) (Yd.ldB (pos := 0) rfl rfl rfl ON3 (.t rfl)) ?_
                      refine W.q rfl rfl rfl rfl (by decide) (Yd.idxT (pos := 1) rfl hy138 rfl Try.underlying25 SZ63 (.t rfl) (.t rfl)) ?_
                      refine W.q rfl rfl rfl rfl (by decide) (Yd.ldT (enc := encU) (n := 1) (pos := 1) (fun _ => rfl) rfl hy138 rfl rfl ON63 (.t rfl)) ?_
                      refine W.q rfl rfl rfl rfl (by decide) (Yd.orU (a := y135) (b := y137) rfl (.t rfl) (.t rfl)) ?_
                      refine W.q rfl rfl rfl rfl (by decide) (Yd.idxT (pos := 3) rfl hy136 rfl Try.underlying25 SZ63 (.t rfl) (.t rfl)) ?_
                      refine W.s rfl rfl rfl rfl (Ef.stT (enc := encU) (n := 1) (pos := 3) (y := (y135 ||| y137)) (us := [_]) (fun _ => rfl) rfl hy136 rfl (.t rfl) (.t rfl) SZ63 rfl rfl rfl (by decide)) ?_
                      rintro _ _ ⟨rfl, rfl⟩
                      refine ⟨.inl rfl, ?_⟩
                      refine W.cast (m' := m) (l' := hcells b75 [_, _, _, _, _, _] 67 :: hownT 63 1 encU v45 _ :: hcells b9 [_, _, _] 27 :: hownT 63 1 encU v47 _ :: hownT 65 2 Label.enc v49 _ :: hownT 28 1 encI v51 _ :: hcells b4 [_, _, _] 27 :: hownT 63 1 encU (.slice none 0 0) (([] : List (BitVec 32))) :: hownT 65 2 Label.enc (.slice none 0 0) (([] : List Label)) :: hownT 28 1 encI (.slice none 0 0) (([] : List Int)) :: l) rfl rfl ?_
                      refine W.end ?_
                      refine NX.sub (env' := [(0, _), (1, _), (3, _), (8, _), (9, _), (13, _), (52, _), (53, _), (54, _), (16, _)]) ⟨rfl, rfl, rfl, rfl, rfl, rfl, rfl, rfl, rfl, rfl, trivial⟩ ?_
                      refine NX.drop (l' := hownT 63 1 encU v45 _ :: hcells b9 [_, _, _] 27 :: hownT 63 1 encU v47 _ :: hownT 65 2 Label.enc v49 _ :: hownT 28 1 encI v51 _ :: hcells b4 [_, _, _] 27 :: hownT 63 1 encU (.slice none 0 0) (([] : List (BitVec 32))) :: hownT 65 2 Label.enc (.slice none 0 0) (([] : List Label)) :: hownT 28 1 encI (.slice none 0 0) (([] : List Int)) :: l) (.cons _ (.cons_cons _ (.cons_cons _ (.cons_cons _ (.cons_cons _ (.cons_cons _ (.cons_cons _ (.cons_cons _ (.cons_cons _ (.cons_cons _ (.refl _))))))))))) ?_
                      refine NX.sub (env' := [(0, _), (1, _), (3, _), (8, _), (9, _), (13, _), (52, _), (53, _), (54, _), (16, _)]) ⟨rfl, rfl, rfl, rfl, rfl, rfl, rfl, rfl, rfl, rfl, trivial⟩ ?_
                      exact hk85 _ _ ⟨_, _, _, _, _, _, _, rfl, rfl, hr⟩
                  refine Tr.cond (.t rfl) (fun hb => ?_) (fun hb => ?_)
                  · have hr := cond_t hb hr
                    obtain ⟨y139, hy140, hr⟩ := bind_some hr
                    obtain ⟨y141, hy142, hr⟩ := bind_some hr
                    obtain ⟨r143, hr144, hr⟩ := bind_some hr
                    refine Tr.region_x (fun _ => false) (fun _ => false) (Ord.of [0, 1, 2, 3, 4, 5, 6, 7, 8, 9, 10, 11, 12]) FM (by kernel_rfl) ?_
                    refine W.q rfl rfl rfl rfl (by decide) (Yd.fldB rfl Try.underlying27 rfl SZ22 rfl (.t rfl)) ?_
                    refine W.q rfl rfl rfl rfl (by decide) (Yd.ldB (pos := 2) rfl rfl rfl ON22 (.t rfl)) ?_
                    refine W.q rfl rfl rfl rfl (by decide) (Yd.fldB rfl Try.underlying67 rfl SZ3 rfl (.t rfl)) ?_
                    refine W.q rfl rfl rfl rfl (by decide) (Yd.ldB (pos := 0) rfl rfl rfl ON3 (.t rfl)) ?_
                    refine W.q rfl rfl rfl rfl (by decide) (Yd.idxT (pos := 4) rfl hy140 rfl Try.underlying22 SZ65 (.t rfl) (.t rfl)) ?_
                    refine W.q rfl rfl rfl rfl (by decide) (Yd.ldTs (enc := Label.enc) (n := 2) (pos := 4) (us := [_, _]) (fun _ => rfl) rfl hy140 rfl (by decide) rfl ON65 US65 SZ65 (.t rfl)) ?_
                    refine W.q rfl rfl rfl rfl (by decide) (Yd.mv rfl (.t rfl)) ?_
                    refine W.q rfl rfl rfl rfl (by decide) (Yd.fldB rfl Try.underlying67 rfl SZ3 rfl (.t rfl)) ?_
                    refine W.q rfl rfl rfl rfl (by decide) (Yd.ldB (pos := 0) rfl rfl rfl ON3 (.t rfl)) ?_
                    refine W.q rfl rfl rfl rfl (by decide) (Yd.idxR hthings_1 hy142 rfl Try.underlying22 SZ65 (.t rfl) (.t rfl)) ?_
                    refine W.q rfl rfl rfl rfl (by decide) (Yd.ldFs (us := [_, _]) hthings_1 (.refl _) hy142 rfl rfl ON65 US65 SZ65 (.t rfl)) ?_
                    refine W.q rfl rfl rfl rfl (by decide) (Yd.call (v := .bool r143) rfl Try.func38 rfl rfl (.cons (.t rfl) (.cons (.t rfl) .nil)) (fun x' hx w hw => syllogistref_Below_ok w0 x'.m x'.l y139 y141 _ hr144 w hw)) ?_
                    refine W.q rfl rfl rfl rfl (by decide) (Yd.as rfl (.t rfl)) ?_
                    refine W.end ?_
                    refine NX.sub (env' := [(0, _), (1, _), (3, _), (8, _), (9, _), (13, _), (52, _), (53, _), (54, _), (15, _), (16, _), (18, _)]) ⟨rfl, rfl, rfl, rfl, rfl, rfl, rfl, rfl, rfl, rfl, rfl, rfl, trivial⟩ ?_
                    refine NX.sub (env' := [(0, _), (1, _), (3, _), (8, _), (9, _), (13, _), (52, _), (53, _), (54, _), (15, _), (16, _), (18, _)]) ⟨rfl, rfl, rfl, rfl, rfl, rfl, rfl, rfl, rfl, rfl, rfl, rfl, trivial⟩ ?_
                    exact hk134 _ _ ⟨_, rfl, rfl, hr⟩
                  · have hr := cond_f hb hr
                    refine Tr.skip' ?_
                    refine NX.sub (env' := [(0, _), (1, _), (3, _), (8, _), (9, _), (13, _), (52, _), (53, _), (54, _), (15, _), (16, _), (18, _)]) ⟨rfl, rfl, rfl, rfl, rfl, rfl, rfl, rfl, rfl, rfl, rfl, rfl, trivial⟩ ?_
                    exact hk134 _ _ ⟨_, rfl, rfl, hr⟩
    have hlen145 := (hthings_1).2.1
    refine Tr.block ?_
    refine Tr.sub (env' := [(0, _), (1, _), (2, _), (3, _), (8, _), (9, _), (12, _)]) ⟨rfl, rfl, rfl, rfl, rfl, rfl, rfl, trivial⟩ ?_
    refine Tr.loop (S := fun n (z : Int × (List (BitVec 32))) env x => match z with | (i_146, l25) => ∃ v26 : Value, env = [(0, uclear_0), (1, uthings_1), (2, uscript_2), (3, .bool up_3), (8, bp b4 0), (9, bp b9 0), (12, .int .i64 i_146)] ∧ x = ⟨m, hcells b9 [(.slice none 0 0), v18, v26] 27 :: hownT 63 1 encU v26 l25 :: hownT 65 2 Label.enc v18 l17 :: hownT 28 1 encI (.slice none 0 0) (([] : List Int)) :: hcells b4 [(.slice none 0 0), (.slice none 0 0), (.slice none 0 0)] 27 :: hownT 63 1 encU (.slice none 0 0) (([] : List (BitVec 32))) :: hownT 65 2 Label.enc (.slice none 0 0) (([] : List Label)) :: hownT 28 1 encI (.slice none 0 0) (([] : List Int)) :: l⟩ ∧ n = ((things_1.length : Int) - i_146).toNat ∧ 0 ≤ i_146 ∧ forK (σ := (List (BitVec 32))) (fun i s nx_ => syllogistref_Mark_b147 i s nx_) (fun s => syllogistref_Mark_k29 clear_0 things_1 script_2 up_3 l17 s) n i_146 l25 = some r) _ ((0 : Int), ([] : List (BitVec 32))) ⟨_, rfl, rfl, rfl, (by omega), hr⟩ ?_
    rintro n149 ⟨i_146, l25⟩ env x ⟨v26, rfl, rfl, hni_146, h0i_146, hr⟩
    cases n149 with
    | zero =>
      simp only [forK] at hr
      refine Tr.seq ?_
      refine Tr.seq ?_
      refine Tr.region_f (fun _ => false) ?_
      refine W.q rfl rfl rfl rfl (by decide) (Yd.mv rfl (.t rfl)) ?_
      refine W.q rfl rfl rfl rfl (by decide) (Yd.mv rfl (.t rfl)) ?_
      refine W.q rfl rfl rfl rfl (by decide) (Yd.lenR hthings_1 rfl Try.underlying22 (.t rfl)) ?_
      refine W.q rfl rfl rfl rfl (by decide) (Yd.lss rfl (.t rfl) (.t rfl)) ?_
      refine W.end ?_
      refine NX.sub (env' := [(0, _), (1, _), (2, _), (3, _), (8, _), (9, _), (12, _), (38, _)]) ⟨rfl, rfl, rfl, rfl, rfl, rfl, rfl, rfl, trivial⟩ ?_
      refine NX.then ?_
      refine Tr.cond (.t rfl) (fun hb => ?_) (fun hb => ?_)
      · exact absurd (hb.symm.trans (fr_end hni_146)) (by decide)
      ·
        refine Tr.exit' (EX.then (EX.then (EX.block ?_)))
        refine NX.sub (env' := [(0, _), (1, _), (2, _), (3, _), (8, _), (9, _)]) ⟨rfl, rfl, rfl, rfl, rfl, rfl, trivial⟩ ?_
        exact hk30 _ _ ⟨_, _, rfl, rfl, hr⟩
    | succ n149 =>
      obtain ⟨nx148, hnx148, hr⟩ := forK_succ hr
      try dsimp only at hr
      unfold syllogistref_Mark_b147 at hr
      try dsimp only at hr
      have hlti_146 := fr_bnd hni_146
      refine Tr.seq ?_
      refine Tr.seq ?_
      refine Tr.region_f (fun _ => false) ?_
      refine W.q rfl rfl rfl rfl (by decide) (Yd.mv rfl (.t rfl)) ?_
      refine W.q rfl rfl rfl rfl (by decide) (Yd.mv rfl (.t rfl)) ?_
      refine W.q rfl rfl rfl rfl (by decide) (Yd.lenR hthings_1 rfl Try.underlying22 (.t rfl)) ?_
      refine W.q rfl rfl rfl rfl (by decide) (Yd.lss rfl (.t rfl) (.t rfl)) ?_
      refine W.end ?_
      refine NX.sub (env' := [(0, _), (1, _), (2, _), (3, _), (8, _), (9, _), (12, _), (38, _)]) ⟨rfl, rfl, rfl, rfl, rfl, rfl, rfl, rfl, trivial⟩ ?_
      refine NX.then ?_
      refine Tr.cond (.t rfl) (fun hb => ?_) (fun hb => ?_)
      rotate_left
      · exact absurd (hb.symm.trans (fr_go hni_146)) (by decide)
      ·
        refine Tr.skip' ?_
        refine NX.then ?_
        refine Tr.seq ?_
        refine Tr.block ?_
        obtain ⟨hq153, hr⟩ := guard_some hr; replace hq153 := of_decide_eq_true hq153
        refine Tr.region_f (fun i => Nat.beq i 5 || Nat.beq i 6 || Nat.beq i 8) ?_
        refine W.q rfl rfl rfl rfl (by decide) (Yd.fldB rfl Try.underlying27 rfl SZ25 rfl (.t rfl)) ?_
        refine W.q rfl rfl rfl rfl (by decide) (Yd.ldB (pos := 0) rfl rfl rfl ON25 (.t rfl)) ?_
        refine W.q rfl rfl rfl rfl (by decide) (Yd.mv rfl (.t rfl)) ?_
        refine W.q rfl rfl rfl rfl (by decide) (Yd.cvQ rfl US3 Try.underlying74 (.t rfl)) ?_
        refine W.q rfl rfl rfl rfl (by decide) (Yd.shlU (a := 1#32) rfl .c (.t rfl) (Int.natCast_nonneg _)) ?_
        refine W.e rfl rfl rfl rfl (by decide) (Ef.bsT (enc := encU) (vs := [_]) (ys := [(1#32 <<< ((BitVec.ofInt 64 i_146)).toNat)]) (fun _ => rfl) IF63 rfl Try.underlying25 (by decide) rfl (.cons (.t rfl) .nil) rfl rfl (by decide)) ?_
        rintro v150 _ rfl
        refine ⟨.inl rfl, ?_⟩
        refine W.cast (m' := m) (l' := hownT 63 1 encU v150 _ :: hcells b9 [_, _, _] 27 :: hownT 63 1 encU v26 _ :: hownT 65 2 Label.enc v18 _ :: hownT 28 1 encI (.slice none 0 0) (([] : List Int)) :: hcells b4 [_, _, _] 27 :: hownT 63 1 encU (.slice none 0 0) (([] : List (BitVec 32))) :: hownT 65 2 Label.enc (.slice none 0 0) (([] : List Label)) :: hownT 28 1 encI (.slice none 0 0) (([] : List Int)) :: l) rfl rfl ?_
        refine W.e rfl rfl rfl rfl (by decide) (Ef.apI (pos := 2) (enc := encU) (xs := l25) (ys := ([(1#32 <<< ((BitVec.ofInt 64 i_146)).toNat)] : List (BitVec 32))) (fun _ => rfl) IF63 rfl rfl Try.underlying25 rfl (by decide) (.t rfl) (.t rfl) (Src.own (pos := 0) rfl) (fun _ => rfl) (by omega) (by omega)) ?_
        rintro v152 _ rfl
        refine ⟨.inl rfl, ?_⟩
        refine W.cast (m' := m) (l' := hownT 63 1 encU v150 _ :: hcells b9 [_, _, _] 27 :: hownT 63 1 encU v152 _ :: hownT 65 2 Label.enc v18 _ :: hownT 28 1 encI (.slice none 0 0) (([] : List Int)) :: hcells b4 [_, _, _] 27 :: hownT 63 1 encU (.slice none 0 0) (([] : List (BitVec 32))) :: hownT 65 2 Label.enc (.slice none 0 0) (([] : List Label)) :: hownT 28 1 encI (.slice none 0 0) (([] : List Int)) :: l) rfl rfl ?_
        refine W.q rfl rfl rfl rfl (by decide) (Yd.fldB rfl Try.underlying27 rfl SZ25 rfl (.t rfl)) ?_
        refine W.s rfl rfl rfl rfl (Ef.stBo (pos := 1) (pos2 := 2) (cs' := [_, _, _]) rfl rfl rfl (.t rfl) (.t rfl) SZ25 (Nat.le_of_ble_eq_true rfl) rfl) ?_
        rintro _ _ ⟨rfl, rfl⟩
        refine ⟨.inl rfl, ?_⟩
        refine W.cast (m' := m) (l' := hownT 63 1 encU v150 _ :: hcells b9 [_, _, _] 27 :: hownT 63 1 encU v152 _ :: hownT 65 2 Label.enc v18 _ :: hownT 28 1 encI (.slice none 0 0) (([] : List Int)) :: hcells b4 [_, _, _] 27 :: hownT 63 1 encU (.slice none 0 0) (([] : List (BitVec 32))) :: hownT 65 2 Label.enc (.slice none 0 0) (([] : List Label)) :: hownT 28 1 encI (.slice none 0 0) (([] : List Int)) :: l) rfl rfl ?_
        refine W.end ?_
        refine NX.sub (env' := [(0, _), (1, _), (2, _), (3, _), (8, _), (9, _), (12, _)]) ⟨rfl, rfl, rfl, rfl, rfl, rfl, rfl, trivial⟩ ?_
        refine NX.drop (l' := hcells b9 [_, _, _] 27 :: hownT 63 1 encU v152 _ :: hownT 65 2 Label.enc v18 _ :: hownT 28 1 encI (.slice none 0 0) (([] : List Int)) :: hcells b4 [_, _, _] 27 :: hownT 63 1 encU (.slice none 0 0) (([] : List (BitVec 32))) :: hownT 65 2 Label.enc (.slice none 0 0) (([] : List Label)) :: hownT 28 1 encI (.slice none 0 0) (([] : List Int)) :: l) (.cons _ (.cons_cons _ (.cons_cons _ (.cons_cons _ (.cons_cons _ (.cons_cons _ (.cons_cons _ (.cons_cons _ (.cons_cons _ (.refl _)))))))))) ?_
        refine NX.block ?_
        refine NX.then ?_
        refine Tr.region_f (fun _ => false) ?_
        refine W.q rfl rfl rfl rfl (by decide) (Yd.mv rfl (.t rfl)) ?_
        refine W.q rfl rfl rfl rfl (by decide) (Yd.add rfl (.t rfl) .c) ?_
        refine W.q rfl rfl rfl rfl (by decide) (Yd.as rfl (.t rfl)) ?_
        refine W.end ?_
        refine NX.sub (env' := [(0, _), (1, _), (2, _), (3, _), (8, _), (9, _), (12, _)]) ⟨rfl, rfl, rfl, rfl, rfl, rfl, rfl, trivial⟩ ?_
        refine NX.sub (env' := [(0, _), (1, _), (2, _), (3, _), (8, _), (9, _), (12, _)]) ⟨rfl, rfl, rfl, rfl, rfl, rfl, rfl, trivial⟩ ?_
        have hw := w64_id (n := i_146 + 1) (by omega) (by omega)
        exact NX.again n149 (i_146 + 1, (l25 ++ ([(1#32 <<< ((BitVec.ofInt 64 i_146)).toNat)] : List (BitVec 32)))) (Nat.lt_succ_self _) ⟨_, (by rw [hw] <;> rfl), rfl, (fr_dec hni_146), (by omega), ((hnx148 _).symm.trans hr)⟩
  have hlen154 := (hclear_0).2.1
  refine Tr.block ?_
  refine Tr.sub (env' := [(0, _), (1, _), (2, _), (3, _), (8, _), (9, _), (20, _), (21, _), (22, _)]) ⟨rfl, rfl, rfl, rfl, rfl, rfl, rfl, rfl, rfl, trivial⟩ ?_
  refine Tr.loop (S := fun n (z : Int × (List Label)) env x => match z with | (t_155, l15) => ∃ v16 : Value, env = [(0, uclear_0), (1, uthings_1), (2, uscript_2), (3, .bool up_3), (8, bp b4 0), (9, bp b9 0), (20, uclear_0), (21, .int .i64 ((clear_0.length : Int))), (22, .int .i64 t_155)] ∧ x = ⟨m, hcells b9 [(.slice none 0 0), v16, (.slice none 0 0)] 27 :: hownT 63 1 encU (.slice none 0 0) (([] : List (BitVec 32))) :: hownT 65 2 Label.enc v16 l15 :: hownT 28 1 encI (.slice none 0 0) (([] : List Int)) :: hcells b4 [(.slice none 0 0), (.slice none 0 0), (.slice none 0 0)] 27 :: hownT 63 1 encU (.slice none 0 0) (([] : List (BitVec 32))) :: hownT 65 2 Label.enc (.slice none 0 0) (([] : List Label)) :: hownT 28 1 encI (.slice none 0 0) (([] : List Int)) :: l⟩ ∧ n = ((clear_0.length : Int) - t_155).toNat ∧ 0 ≤ t_155 ∧ forK (σ := (List Label)) (fun i s nx_ => syllogistref_Mark_b156 clear_0 up_3 i s nx_) (fun s => syllogistref_Mark_k19 clear_0 things_1 script_2 up_3 s) n t_155 l15 = some r) _ ((0 : Int), ([] : List Label)) ⟨_, rfl, rfl, rfl, (by omega), hr⟩ ?_
  rintro n158 ⟨t_155, l15⟩ env x ⟨v16, rfl, rfl, hnt_155, h0t_155, hr⟩
  cases n158 with
  | zero =>
    simp only [forK] at hr
    refine Tr.seq ?_
    refine Tr.region_f (fun _ => false) ?_
    refine W.q rfl rfl rfl rfl (by decide) (Yd.lss rfl (.t rfl) (.t rfl)) ?_
    refine W.end ?_
    refine NX.sub (env' := [(0, _), (1, _), (2, _), (3, _), (8, _), (9, _), (20, _), (21, _), (22, _), (23, _)]) ⟨rfl, rfl, rfl, rfl, rfl, rfl, rfl, rfl, rfl, rfl, trivial⟩ ?_
    refine NX.then ?_
    refine Tr.seq ?_
    refine Tr.cond (.t rfl) (fun hb => ?_) (fun hb => ?_)
    · exact absurd (hb.symm.trans (fr_end hnt_155)) (by decide)
    ·
      refine Tr.exit' (EX.then (EX.then (EX.block ?_)))
      refine NX.sub (env' := [(0, _), (1, _), (2, _), (3, _), (8, _), (9, _)]) ⟨rfl, rfl, rfl, rfl, rfl, rfl, trivial⟩ ?_
      exact hk20 _ _ ⟨_, _, rfl, rfl, hr⟩
  | succ n158 =>
    obtain ⟨nx157, hnx157, hr⟩ := forK_succ hr
    try dsimp only at hr
    unfold syllogistref_Mark_b156 at hr
    try dsimp only at hr
    have hltt_155 := fr_bnd hnt_155
    refine Tr.seq ?_
    refine Tr.region_f (fun _ => false) ?_
    refine W.q rfl rfl rfl rfl (by decide) (Yd.lss rfl (.t rfl) (.t rfl)) ?_
    refine W.end ?_
    refine NX.sub (env' := [(0, _), (1, _), (2, _), (3, _), (8, _), (9, _), (20, _), (21, _), (22, _), (23, _)]) ⟨rfl, rfl, rfl, rfl, rfl, rfl, rfl, rfl, rfl, rfl, trivial⟩ ?_
    refine NX.then ?_
    refine Tr.seq ?_
    refine Tr.cond (.t rfl) (fun hb => ?_) (fun hb => ?_)
    rotate_left
    · exact absurd (hb.symm.trans (fr_go hnt_155)) (by decide)
    ·
      refine Tr.skip' ?_
      refine NX.then ?_
      refine Tr.seq ?_
      refine Tr.block ?_
      refine Tr.seq ?_
      obtain ⟨y159, hy160, hr⟩ := bind_some hr
      refine Tr.region_f (fun i => Nat.beq i 2 || Nat.beq i 3) ?_
      refine W.q rfl rfl rfl rfl (by decide) (Yd.idxR hclear_0 hy160 rfl Try.underlying22 SZ65 (.t rfl) (.t rfl)) ?_
      refine W.q rfl rfl rfl rfl (by decide) (Yd.ldFs (us := [_, _]) hclear_0 (.refl _) hy160 rfl rfl ON65 US65 SZ65 (.t rfl)) ?_
      refine W.e rfl rfl rfl rfl (by decide) (Ef.al rfl ZR65 rfl) ?_
      rintro _ _ ⟨b161, rfl, rfl⟩
      refine ⟨.inl rfl, ?_⟩
      refine W.cast (m' := m) (l' := hcells b161 [_, _] 65 :: hcells b9 [_, _, _] 27 :: hownT 63 1 encU (.slice none 0 0) (([] : List (BitVec 32))) :: hownT 65 2 Label.enc v16 _ :: hownT 28 1 encI (.slice none 0 0) (([] : List Int)) :: hcells b4 [_, _, _] 27 :: hownT 63 1 encU (.slice none 0 0) (([] : List (BitVec 32))) :: hownT 65 2 Label.enc (.slice none 0 0) (([] : List Label)) :: hownT 28 1 encI (.slice none 0 0) (([] : List Int)) :: l) rfl rfl ?_
      refine W.s rfl rfl rfl rfl (Ef.stB (pos := 0) (us := [_, _]) (cs' := [_, _]) rfl rfl (.t rfl) (.t rfl) SZ65 rfl rfl rfl (Nat.le_of_ble_eq_true rfl) rfl) ?_
      rintro _ _ ⟨rfl, rfl⟩
      refine ⟨.inl rfl, ?_⟩
      refine W.cast (m' := m) (l' := hcells b161 [_, _] 65 :: hcells b9 [_, _, _] 27 :: hownT 63 1 encU (.slice none 0 0) (([] : List (BitVec 32))) :: hownT 65 2 Label.enc v16 _ :: hownT 28 1 encI (.slice none 0 0) (([] : List Int)) :: hcells b4 [_, _, _] 27 :: hownT 63 1 encU (.slice none 0 0) (([] : List (BitVec 32))) :: hownT 65 2 Label.enc (.slice none 0 0) (([] : List Label)) :: hownT 28 1 encI (.slice none 0 0) (([] : List Int)) :: l) rfl rfl ?_
      refine W.end ?_
      refine NX.sub (env' := [(0, _), (1, _), (2, _), (3, _), (8, _), (9, _), (20, _), (21, _), (22, _), (11, _)]) ⟨rfl, rfl, rfl, rfl, rfl, rfl, rfl, rfl, rfl, rfl, trivial⟩ ?_
      refine NX.then ?_
      refine Tr.seq ?_
      refine Tr.seq ?_
      refine Tr.region_f (fun _ => false) ?_
      refine W.q rfl rfl rfl rfl (by decide) (Yd.mv rfl (.t rfl)) ?_
      refine W.end ?_
      refine NX.sub (env' := [(0, _), (1, _), (2, _), (3, _), (8, _), (9, _), (20, _), (21, _), (22, _), (11, _), (26, _)]) ⟨rfl, rfl, rfl, rfl, rfl, rfl, rfl, rfl, rfl, rfl, rfl, trivial⟩ ?_
      refine NX.then ?_
      refine Tr.join (S := fun env x => ∃ c163 : Int, ∃ c164 : BitVec 32, env = [(0, uclear_0), (1, uthings_1), (2, uscript_2), (3, .bool up_3), (8, bp b4 0), (9, bp b9 0), (20, uclear_0), (21, .int .i64 ((clear_0.length : Int))), (22, .int .i64 t_155), (11, bp b161 0)] ∧ x = ⟨m, hcells b161 [.int .i64 c163, .int .u32 (c164.toNat : Int)] 65 :: hcells b9 [(.slice none 0 0), v16, (.slice none 0 0)] 27 :: hownT 63 1 encU (.slice none 0 0) (([] : List (BitVec 32))) :: hownT 65 2 Label.enc v16 l15 :: hownT 28 1 encI (.slice none 0 0) (([] : List Int)) :: hcells b4 [(.slice none 0 0), (.slice none 0 0), (.slice none 0 0)] 27 :: hownT 63 1 encU (.slice none 0 0) (([] : List (BitVec 32))) :: hownT 65 2 Label.enc (.slice none 0 0) (([] : List Label)) :: hownT 28 1 encI (.slice none 0 0) (([] : List Int)) :: l⟩ ∧ syllogistref_Mark_k165 l15 nx157 c163 c164 = some r) ?_ (fun hk166 => ?_)
      · rintro _ _ ⟨c163, c164, rfl, rfl, hr⟩
        unfold syllogistref_Mark_k165 at hr
        try dsimp only at hr
        refine NX.then ?_
        obtain ⟨hq170, hr⟩ := guard_some hr; replace hq170 := of_decide_eq_true hq170
        refine Tr.region_f (fun i => Nat.beq i 3 || Nat.beq i 4 || Nat.beq i 6) ?_
        refine W.q rfl rfl rfl rfl (by decide) (Yd.fldB rfl Try.underlying27 rfl SZ22 rfl (.t rfl)) ?_
        refine W.q rfl rfl rfl rfl (by decide) (Yd.ldB (pos := 1) rfl rfl rfl ON22 (.t rfl)) ?_
        refine W.q rfl rfl rfl rfl (by decide) (Yd.ldBs (pos := 0) (us := [_, _]) rfl rfl rfl rfl ON65 US65 SZ65 (.t rfl)) ?_
        refine W.e rfl rfl rfl rfl (by decide) (Ef.bsT (enc := Label.enc) (vs := [_]) (ys := [({ level := c163, parts := c164 } : Label)]) (fun _ => rfl) IF65 rfl Try.underlying22 (by decide) rfl (.cons (.t rfl) .nil) rfl rfl (by decide)) ?_
        rintro v167 _ rfl
        refine ⟨.inl rfl, ?_⟩
        refine W.cast (m' := m) (l' := hownT 65 2 Label.enc v167 _ :: hcells b161 [_, _] 65 :: hcells b9 [_, _, _] 27 :: hownT 63 1 encU (.slice none 0 0) (([] : List (BitVec 32))) :: hownT 65 2 Label.enc v16 _ :: hownT 28 1 encI (.slice none 0 0) (([] : List Int)) :: hcells b4 [_, _, _] 27 :: hownT 63 1 encU (.slice none 0 0) (([] : List (BitVec 32))) :: hownT 65 2 Label.enc (.slice none 0 0) (([] : List Label)) :: hownT 28 1 encI (.slice none 0 0) (([] : List Int)) :: l) rfl rfl ?_
        refine W.e rfl rfl rfl rfl (by decide) (Ef.apI (pos := 4) (enc := Label.enc) (xs := l15) (ys := ([({ level := c163, parts := c164 } : Label)] : List Label)) (fun _ => rfl) IF65 rfl rfl Try.underlying22 rfl (by decide) (.t rfl) (.t rfl) (Src.own (pos := 0) rfl) (fun _ => rfl) (by omega) (by omega)) ?_
        rintro v169 _ rfl
        refine ⟨.inl rfl, ?_⟩
        refine W.cast (m' := m) (l' := hownT 65 2 Label.enc v167 _ :: hcells b161 [_, _] 65 :: hcells b9 [_, _, _] 27 :: hownT 63 1 encU (.slice none 0 0) (([] : List (BitVec 32))) :: hownT 65 2 Label.enc v169 _ :: hownT 28 1 encI (.slice none 0 0) (([] : List Int)) :: hcells b4 [_, _, _] 27 :: hownT 63 1 encU (.slice none 0 0) (([] : List (BitVec 32))) :: hownT 65 2 Label.enc (.slice none 0 0) (([] : List Label)) :: hownT 28 1 encI (.slice none 0 0) (([] : List Int)) :: l) rfl rfl ?_
        refine W.q rfl rfl rfl rfl (by decide) (Yd.fldB rfl Try.underlying27 rfl SZ22 rfl (.t rfl)) ?_
        refine W.s rfl rfl rfl rfl (Ef.stBo (pos := 2) (pos2 := 4) (cs' := [_, _, _]) rfl rfl rfl (.t rfl) (.t rfl) SZ22 (Nat.le_of_ble_eq_true rfl) rfl) ?_
        rintro _ _ ⟨rfl, rfl⟩
        refine ⟨.inl rfl, ?_⟩
        refine W.cast (m' := m) (l' := hownT 65 2 Label.enc v167 _ :: hcells b161 [_, _] 65 :: hcells b9 [_, _, _] 27 :: hownT 63 1 encU (.slice none 0 0) (([] : List (BitVec 32))) :: hownT 65 2 Label.enc v169 _ :: hownT 28 1 encI (.slice none 0 0) (([] : List Int)) :: hcells b4 [_, _, _] 27 :: hownT 63 1 encU (.slice none 0 0) (([] : List (BitVec 32))) :: hownT 65 2 Label.enc (.slice none 0 0) (([] : List Label)) :: hownT 28 1 encI (.slice none 0 0) (([] : List Int)) :: l) rfl rfl ?_
        refine W.end ?_
        refine NX.sub (env' := [(0, _), (1, _), (2, _), (3, _), (8, _), (9, _), (20, _), (21, _), (22, _)]) ⟨rfl, rfl, rfl, rfl, rfl, rfl, rfl, rfl, rfl, trivial⟩ ?_
        refine NX.drop (l' := hcells b9 [_, _, _] 27 :: hownT 63 1 encU (.slice none 0 0) (([] : List (BitVec 32))) :: hownT 65 2 Label.enc v169 _ :: hownT 28 1 encI (.slice none 0 0) (([] : List Int)) :: hcells b4 [_, _, _] 27 :: hownT 63 1 encU (.slice none 0 0) (([] : List (BitVec 32))) :: hownT 65 2 Label.enc (.slice none 0 0) (([] : List Label)) :: hownT 28 1 encI (.slice none 0 0) (([] : List Int)) :: l) (.cons _ (.cons _ (.cons_cons _ (.cons_cons _ (.cons_cons _ (.cons_cons _ (.cons_cons _ (.cons_cons _ (.cons_cons _ (.cons_cons _ (.refl _))))))))))) ?_
        refine NX.block ?_
        refine NX.then ?_
        refine Tr.region_f (fun _ => false) ?_
        refine W.q rfl rfl rfl rfl (by decide) (Yd.add rfl (.t rfl) .c) ?_
        refine W.q rfl rfl rfl rfl (by decide) (Yd.mv rfl (.t rfl)) ?_
        refine W.end ?_
        refine NX.sub (env' := [(0, _), (1, _), (2, _), (3, _), (8, _), (9, _), (20, _), (21, _), (22, _)]) ⟨rfl, rfl, rfl, rfl, rfl, rfl, rfl, rfl, rfl, trivial⟩ ?_
        refine NX.sub (env' := [(0, _), (1, _), (2, _), (3, _), (8, _), (9, _), (20, _), (21, _), (22, _)]) ⟨rfl, rfl, rfl, rfl, rfl, rfl, rfl, rfl, rfl, trivial⟩ ?_
        have hw := w64_id (n := t_155 + 1) (by omega) (by omega)
        exact NX.again n158 (t_155 + 1, (l15 ++ ([({ level := c163, parts := c164 } : Label)] : List Label))) (Nat.lt_succ_self _) ⟨_, (by rw [hw] <;> rfl), rfl, (fr_dec hnt_155), (by omega), ((hnx157 _).symm.trans hr)⟩
      refine Tr.cond (.t rfl) (fun hb => ?_) (fun hb => ?_)
      · have hr := cond_t hb hr
        refine Tr.region_f (fun i => Nat.beq i 1) ?_
        refine W.q rfl rfl rfl rfl (by decide) (Yd.bld (cells := [.int .i64 ((0 : Int)), .int .u32 (((0#32)).toNat : Int)]) rfl ZI65 PL65 .nil rfl) ?_
        refine W.s rfl rfl rfl rfl (Ef.stB (pos := 0) (us := [_, _]) (cs' := [_, _]) rfl rfl (.t rfl) (.t rfl) SZ65 rfl rfl rfl (Nat.le_of_ble_eq_true rfl) rfl) ?_
        rintro _ _ ⟨rfl, rfl⟩
        refine ⟨.inl rfl, ?_⟩
        refine W.cast (m' := m) (l' := hcells b161 [_, _] 65 :: hcells b9 [_, _, _] 27 :: hownT 63 1 encU (.slice none 0 0) (([] : List (BitVec 32))) :: hownT 65 2 Label.enc v16 _ :: hownT 28 1 encI (.slice none 0 0) (([] : List Int)) :: hcells b4 [_, _, _] 27 :: hownT 63 1 encU (.slice none 0 0) (([] : List (BitVec 32))) :: hownT 65 2 Label.enc (.slice none 0 0) (([] : List Label)) :: hownT 28 1 encI (.slice none 0 0) (([] : List Int)) :: l) rfl rfl ?_
        refine W.end ?_
        refine NX.sub (env' := [(0, _), (1, _), (2, _), (3, _), (8, _), (9, _), (20, _), (21, _), (22, _), (11, _)]) ⟨rfl, rfl, rfl, rfl, rfl, rfl, rfl, rfl, rfl, rfl, trivial⟩ ?_
        refine NX.sub (env' := [(0, _), (1, _), (2, _), (3, _), (8, _), (9, _), (20, _), (21, _), (22, _), (11, _)]) ⟨rfl, rfl, rfl, rfl, rfl, rfl, rfl, rfl, rfl, rfl, trivial⟩ ?_
        exact hk166 _ _ ⟨_, _, rfl, rfl, hr⟩
      · have hr := cond_f hb hr
        refine Tr.skip' ?_
        refine NX.sub (env' := [(0, _), (1, _), (2, _), (3, _), (8, _), (9, _), (20, _), (21, _), (22, _), (11, _)]) ⟨rfl, rfl, rfl, rfl, rfl, rfl, rfl, rfl, rfl, rfl, trivial⟩ ?_
        exact hk166 _ _ ⟨_, _, rfl, rfl, hr⟩

def syllogistref_Codes_k3 : Option (Bool) :=
  some true

def syllogistref_Codes_b7 (a_0 : List Int) (b_1 : List Int) (i_6 : Int) (nx8 : Unit → Option (Bool)) : Option (Bool) :=
  (geti a_0 i_6).bind fun y10 =>
  (geti b_1 i_6).bind fun y12 =>
  (bif (y10 != y12) then
  some false
  else
  nx8 ())

def syllogistref_Codes (a_0 : List Int) (b_1 : List Int) : Option (Bool) :=
  (bif ((a_0.length : Int) != (b_1.length : Int)) then
  some false
  else
  forK (σ := Unit) (fun i s nx_ => syllogistref_Codes_b7 a_0 b_1 i nx_) (fun _ => syllogistref_Codes_k3) ((a_0.length : Int) - (0 : Int)).toNat (0 : Int) ())

set_option maxRecDepth 100000 in
set_option maxHeartbeats 4000000 in
theorem syllogistref_Codes_ok (w0 : World) (m : Snap) (l : List HI) (ua_0 : Value) (a_0 : List Int) (ha_0 : RS rI m ua_0 a_0) (ub_1 : Value) (b_1 : List Int) (hb_1 : RS rI m ub_1 b_1) (r : Bool) (hr : syllogistref_Codes a_0 b_1 = some r) (w : World) (hc : cX w0 ⟨m, l⟩ w) :
    Calls Try.prog 13 [ua_0, ub_1].toArray w fun e w' => e = .returned (.bool r) ∧ cX w0 ⟨m, l⟩ w' := by
  unfold syllogistref_Codes at hr
  refine calls_of_Tr (N := 26) Try.func13 rfl hc rfl (Nat.le_of_ble_eq_true rfl) ?_
  refine Tr.seq ?_
  refine Tr.region_f (fun _ => false) ?_
  refine W.q rfl rfl rfl rfl (by decide) (Yd.as rfl .c) ?_
  refine W.end ?_
  refine NX.sub (env' := [(0, _), (1, _)]) ⟨rfl, rfl, trivial⟩ ?_
  refine NX.then ?_
  refine Tr.seq ?_
  refine Tr.seq ?_
  refine Tr.region_f (fun _ => false) ?_
  refine W.q rfl rfl rfl rfl (by decide) (Yd.mv rfl (.t rfl)) ?_
  refine W.q rfl rfl rfl rfl (by decide) (Yd.lenR ha_0 rfl Try.underlying24 (.t rfl)) ?_
  refine W.q rfl rfl rfl rfl (by decide) (Yd.mv rfl (.t rfl)) ?_
  refine W.q rfl rfl rfl rfl (by decide) (Yd.lenR hb_1 rfl Try.underlying24 (.t rfl)) ?_
  refine W.q rfl rfl rfl rfl (by decide) (Yd.neq rfl (.t rfl) (.t rfl)) ?_
  refine W.end ?_
  refine NX.sub (env' := [(0, _), (1, _), (10, _)]) ⟨rfl, rfl, rfl, trivial⟩ ?_
  refine NX.then ?_
  refine Tr.cond (.t rfl) (fun hb => ?_) (fun hb => ?_)
  · have hr := cond_t hb hr
    refine Tr.seq ?_
    refine Tr.region_f (fun _ => false) ?_
    refine W.q rfl rfl rfl rfl (by decide) (Yd.as rfl .c) ?_
    refine W.end ?_
    refine NX.sub (env' := [(4, _)]) ⟨rfl, trivial⟩ ?_
    refine NX.then ?_
    refine Tr.ret' (RT.then ?_)
    refine res1 rfl rfl ?_
    intro w hc
    cases hr
    exact ⟨rfl, hc⟩
  · have hr := cond_f hb hr
    refine Tr.skip' ?_
    refine NX.then ?_
    refine Tr.seq ?_
    refine Tr.seq ?_
    refine Tr.region_f (fun _ => false) ?_
    refine W.q rfl rfl rfl rfl (by decide) (Yd.as rfl .c) ?_
    refine W.end ?_
    refine NX.sub (env' := [(0, _), (1, _), (5, _)]) ⟨rfl, rfl, rfl, trivial⟩ ?_
    refine NX.then ?_
    refine Tr.join (S := fun env x => env = [] ∧ x = ⟨m, l⟩ ∧ syllogistref_Codes_k3 = some r) ?_ (fun hk4 => ?_)
    · rintro _ _ ⟨rfl, rfl, hr⟩
      unfold syllogistref_Codes_k3 at hr
      try dsimp only at hr
      refine NX.then ?_
      refine Tr.seq ?_
      refine Tr.region_f (fun _ => false) ?_
      refine W.q rfl rfl rfl rfl (by decide) (Yd.as rfl .c) ?_
      refine W.end ?_
      refine NX.sub (env' := [(4, _)]) ⟨rfl, trivial⟩ ?_
      refine NX.then ?_
      refine Tr.ret' ?_
      refine res1 rfl rfl ?_
      intro w hc
      cases hr
      exact ⟨rfl, hc⟩
    have hlen5 := (ha_0).2.1
    refine Tr.block ?_
    refine Tr.sub (env' := [(0, _), (1, _), (5, _)]) ⟨rfl, rfl, rfl, trivial⟩ ?_
    refine Tr.loop (S := fun n (z : Int × Unit) env x => match z with | (i_6, _) => env = [(0, ua_0), (1, ub_1), (5, .int .i64 i_6)] ∧ x = ⟨m, l⟩ ∧ n = ((a_0.length : Int) - i_6).toNat ∧ 0 ≤ i_6 ∧ forK (σ := Unit) (fun i s nx_ => syllogistref_Codes_b7 a_0 b_1 i nx_) (fun _ => syllogistref_Codes_k3) n i_6 () = some r) _ ((0 : Int), ()) ⟨rfl, rfl, rfl, (by omega), hr⟩ ?_
    rintro n9 ⟨i_6, _⟩ env x ⟨rfl, rfl, hni_6, h0i_6, hr⟩
    cases n9 with
    | zero =>
      simp only [forK] at hr
      refine Tr.seq ?_
      refine Tr.seq ?_
      refine Tr.region_f (fun _ => false) ?_
      refine W.q rfl rfl rfl rfl (by decide) (Yd.mv rfl (.t rfl)) ?_
      refine W.q rfl rfl rfl rfl (by decide) (Yd.mv rfl (.t rfl)) ?_
      refine W.q rfl rfl rfl rfl (by decide) (Yd.lenR ha_0 rfl Try.underlying24 (.t rfl)) ?_
      refine W.q rfl rfl rfl rfl (by decide) (Yd.lss rfl (.t rfl) (.t rfl)) ?_
      refine W.end ?_
      refine NX.sub (env' := [(0, _), (1, _), (5, _), (14, _)]) ⟨rfl, rfl, rfl, rfl, trivial⟩ ?_
      refine NX.then ?_
      refine Tr.cond (.t rfl) (fun hb => ?_) (fun hb => ?_)
      · exact absurd (hb.symm.trans (fr_end hni_6)) (by decide)
      ·
        refine Tr.exit' (EX.then (EX.then (EX.block ?_)))
        refine NX.sub (env' := []) trivial ?_
        exact hk4 _ _ ⟨rfl, rfl, hr⟩
    | succ n9 =>
      obtain ⟨nx8, hnx8, hr⟩ := forK_succ hr
      try dsimp only at hr
      unfold syllogistref_Codes_b7 at hr
      try dsimp only at hr
      have hlti_6 := fr_bnd hni_6
      refine Tr.seq ?_
      refine Tr.seq ?_
      refine Tr.region_f (fun _ => false) ?_
      refine W.q rfl rfl rfl rfl (by decide) (Yd.mv rfl (.t rfl)) ?_
      refine W.q rfl rfl rfl rfl (by decide) (Yd.mv rfl (.t rfl)) ?_
      refine W.q rfl rfl rfl rfl (by decide) (Yd.lenR ha_0 rfl Try.underlying24 (.t rfl)) ?_
      refine W.q rfl rfl rfl rfl (by decide) (Yd.lss rfl (.t rfl) (.t rfl)) ?_
      refine W.end ?_
      refine NX.sub (env' := [(0, _), (1, _), (5, _), (14, _)]) ⟨rfl, rfl, rfl, rfl, trivial⟩ ?_
      refine NX.then ?_
      refine Tr.cond (.t rfl) (fun hb => ?_) (fun hb => ?_)
      rotate_left
      · exact absurd (hb.symm.trans (fr_go hni_6)) (by decide)
      ·
        refine Tr.skip' ?_
        refine NX.then ?_
        refine Tr.seq ?_
        refine Tr.block ?_
        refine Tr.seq ?_
        obtain ⟨y10, hy11, hr⟩ := bind_some hr
        obtain ⟨y12, hy13, hr⟩ := bind_some hr
        refine Tr.region_x (fun _ => false) (fun _ => false) (Ord.of [0, 1, 2, 3, 4, 5, 6, 7, 8]) FM (by kernel_rfl) ?_
        refine W.q rfl rfl rfl rfl (by decide) (Yd.mv rfl (.t rfl)) ?_
        refine W.q rfl rfl rfl rfl (by decide) (Yd.mv rfl (.t rfl)) ?_
        refine W.q rfl rfl rfl rfl (by decide) (Yd.idxR ha_0 hy11 rfl Try.underlying24 SZ28 (.t rfl) (.t rfl)) ?_
        refine W.q rfl rfl rfl rfl (by decide) (Yd.ldF ha_0 (.refl _) hy11 rfl rfl ON28 (.t rfl)) ?_
        refine W.q rfl rfl rfl rfl (by decide) (Yd.mv rfl (.t rfl)) ?_
        refine W.q rfl rfl rfl rfl (by decide) (Yd.mv rfl (.t rfl)) ?_
        refine W.q rfl rfl rfl rfl (by decide) (Yd.idxR hb_1 hy13 rfl Try.underlying24 SZ28 (.t rfl) (.t rfl)) ?_
        refine W.q rfl rfl rfl rfl (by decide) (Yd.ldF hb_1 (.refl _) hy13 rfl rfl ON28 (.t rfl)) ?_
        refine W.q rfl rfl rfl rfl (by decide) (Yd.neq rfl (.t rfl) (.t rfl)) ?_
        refine W.end ?_
        refine NX.sub (env' := [(0, _), (1, _), (5, _), (25, _)]) ⟨rfl, rfl, rfl, rfl, trivial⟩ ?_
        refine NX.then ?_
        refine Tr.cond (.t rfl) (fun hb => ?_) (fun hb => ?_)
        · have hr := cond_t hb hr
          refine Tr.seq ?_
          refine Tr.region_f (fun _ => false) ?_
          refine W.q rfl rfl rfl rfl (by decide) (Yd.as rfl .c) ?_
          refine W.end ?_
          refine NX.sub (env' := [(4, _)]) ⟨rfl, trivial⟩ ?_
          refine NX.then ?_
          refine Tr.ret' (RT.block (RT.then (RT.then (RT.block (RT.then ?_)))))
          refine res1 rfl rfl ?_
          intro w hc
          cases hr
          exact ⟨rfl, hc⟩
        · have hr := cond_f hb hr
          refine Tr.skip' ?_
          refine NX.block ?_
          refine NX.then ?_
          refine Tr.region_f (fun _ => false) ?_
          refine W.q rfl rfl rfl rfl (by decide) (Yd.mv rfl (.t rfl)) ?_
          refine W.q rfl rfl rfl rfl (by decide) (Yd.add rfl (.t rfl) .c) ?_
          refine W.q rfl rfl rfl rfl (by decide) (Yd.as rfl (.t rfl)) ?_
          refine W.end ?_
          refine NX.sub (env' := [(0, _), (1, _), (5, _)]) ⟨rfl, rfl, rfl, trivial⟩ ?_
          refine NX.sub (env' := [(0, _), (1, _), (5, _)]) ⟨rfl, rfl, rfl, trivial⟩ ?_
          have hw := w64_id (n := i_6 + 1) (by omega) (by omega)
          exact NX.again n9 (i_6 + 1, ()) (Nat.lt_succ_self _) ⟨(by rw [hw] <;> rfl), rfl, (fr_dec hni_6), (by omega), ((hnx8 _).symm.trans hr)⟩

def syllogistref_Labels_k3 : Option (Bool) :=
  some true

def syllogistref_Labels_b7 (a_0 : List Label) (b_1 : List Label) (i_6 : Int) (nx8 : Unit → Option (Bool)) : Option (Bool) :=
  (geti a_0 i_6).bind fun y10 =>
  (geti b_1 i_6).bind fun y12 =>
  (bif (!((y10.level == y12.level) && ((y10.parts == y12.parts) && true))) then
  some false
  else
  nx8 ())

def syllogistref_Labels (a_0 : List Label) (b_1 : List Label) : Option (Bool) :=
  (bif ((a_0.length : Int) != (b_1.length : Int)) then
  some false
  else
  forK (σ := Unit) (fun i s nx_ => syllogistref_Labels_b7 a_0 b_1 i nx_) (fun _ => syllogistref_Labels_k3) ((a_0.length : Int) - (0 : Int)).toNat (0 : Int) ())

set_option maxRecDepth 100000 in
set_option maxHeartbeats 4000000 in
theorem syllogistref_Labels_ok (w0 : World) (m : Snap) (l : List HI) (ua_0 : Value) (a_0 : List Label) (ha_0 : RS rLabel m ua_0 a_0) (ub_1 : Value) (b_1 : List Label) (hb_1 : RS rLabel m ub_1 b_1) (r : Bool) (hr : syllogistref_Labels a_0 b_1 = some r) (w : World) (hc : cX w0 ⟨m, l⟩ w) :
    Calls Try.prog 14 [ua_0, ub_1].toArray w fun e w' => e = .returned (.bool r) ∧ cX w0 ⟨m, l⟩ w' := by
  unfold syllogistref_Labels at hr
  refine calls_of_Tr (N := 26) Try.func14 rfl hc rfl (Nat.le_of_ble_eq_true rfl) ?_
  refine Tr.seq ?_
  refine Tr.region_f (fun _ => false) ?_
  refine W.q rfl rfl rfl rfl (by decide) (Yd.as rfl .c) ?_
  refine W.end ?_
  refine NX.sub (env' := [(0, _), (1, _)]) ⟨rfl, rfl, trivial⟩ ?_
  refine NX.then ?_
  refine Tr.seq ?_
  refine Tr.seq ?_
  refine Tr.region_f (fun _ => false) ?_
  refine W.q rfl rfl rfl rfl (by decide) (Yd.mv rfl (.t rfl)) ?_
  refine W.q rfl rfl rfl rfl (by decide) (Yd.lenR ha_0 rfl Try.underlying22 (.t rfl)) ?_
  refine W.q rfl rfl rfl rfl (by decide) (Yd.mv rfl (.t rfl)) ?_
  refine W.q rfl rfl rfl rfl (by decide) (Yd.lenR hb_1 rfl Try.underlying22 (.t rfl)) ?_
  refine W.q rfl rfl rfl rfl (by decide) (Yd.neq rfl (.t rfl) (.t rfl)) ?_
  refine W.end ?_
  refine NX.sub (env' := [(0, _), (1, _), (10, _)]) ⟨rfl, rfl, rfl, trivial⟩ ?_
  refine NX.then ?_
  refine Tr.cond (.t rfl) (fun hb => ?_) (fun hb => ?_)
  · have hr := cond_t hb hr
    refine Tr.seq ?_
    refine Tr.region_f (fun _ => false) ?_
    refine W.q rfl rfl rfl rfl (by decide) (Yd.as rfl .c) ?_
    refine W.end ?_
    refine NX.sub (env' := [(4, _)]) ⟨rfl, trivial⟩ ?_
    refine NX.then ?_
    refine Tr.ret' (RT.then ?_)
    refine res1 rfl rfl ?_
    intro w hc
    cases hr
    exact ⟨rfl, hc⟩
  · have hr := cond_f hb hr
    refine Tr.skip' ?_
    refine NX.then ?_
    refine Tr.seq ?_
    refine Tr.seq ?_
    refine Tr.region_f (fun _ => false) ?_
    refine W.q rfl rfl rfl rfl (by decide) (Yd.as rfl .c) ?_
    refine W.end ?_
    refine NX.sub (env' := [(0, _), (1, _), (5, _)]) ⟨rfl, rfl, rfl, trivial⟩ ?_
    refine NX.then ?_
    refine Tr.join (S := fun env x => env = [] ∧ x = ⟨m, l⟩ ∧ syllogistref_Labels_k3 = some r) ?_ (fun hk4 => ?_)
    · rintro _ _ ⟨rfl, rfl, hr⟩
      unfold syllogistref_Labels_k3 at hr
      try dsimp only at hr
      refine NX.then ?_
      refine Tr.seq ?_
      refine Tr.region_f (fun _ => false) ?_
      refine W.q rfl rfl rfl rfl (by decide) (Yd.as rfl .c) ?_
      refine W.end ?_
      refine NX.sub (env' := [(4, _)]) ⟨rfl, trivial⟩ ?_
      refine NX.then ?_
      refine Tr.ret' ?_
      refine res1 rfl rfl ?_
      intro w hc
      cases hr
      exact ⟨rfl, hc⟩
    have hlen5 := (ha_0).2.1
    refine Tr.block ?_
    refine Tr.sub (env' := [(0, _), (1, _), (5, _)]) ⟨rfl, rfl, rfl, trivial⟩ ?_
    refine Tr.loop (S := fun n (z : Int × Unit) env x => match z with | (i_6, _) => env = [(0, ua_0), (1, ub_1), (5, .int .i64 i_6)] ∧ x = ⟨m, l⟩ ∧ n = ((a_0.length : Int) - i_6).toNat ∧ 0 ≤ i_6 ∧ forK (σ := Unit) (fun i s nx_ => syllogistref_Labels_b7 a_0 b_1 i nx_) (fun _ => syllogistref_Labels_k3) n i_6 () = some r) _ ((0 : Int), ()) ⟨rfl, rfl, rfl, (by omega), hr⟩ ?_
    rintro n9 ⟨i_6, _⟩ env x ⟨rfl, rfl, hni_6, h0i_6, hr⟩
    cases n9 with
    | zero =>
      simp only [forK] at hr
      refine Tr.seq ?_
      refine Tr.seq ?_
      refine Tr.region_f (fun _ => false) ?_
      refine W.q rfl rfl rfl rfl (by decide) (Yd.mv rfl (.t rfl)) ?_
      refine W.q rfl rfl rfl rfl (by decide) (Yd.mv rfl (.t rfl)) ?_
      refine W.q rfl rfl rfl rfl (by decide) (Yd.lenR ha_0 rfl Try.underlying22 (.t rfl)) ?_
      refine W.q rfl rfl rfl rfl (by decide) (Yd.lss rfl (.t rfl) (.t rfl)) ?_
      refine W.end ?_
      refine NX.sub (env' := [(0, _), (1, _), (5, _), (14, _)]) ⟨rfl, rfl, rfl, rfl, trivial⟩ ?_
      refine NX.then ?_
      refine Tr.cond (.t rfl) (fun hb => ?_) (fun hb => ?_)
      · exact absurd (hb.symm.trans (fr_end hni_6)) (by decide)
      ·
        refine Tr.exit' (EX.then (EX.then (EX.block ?_)))
        refine NX.sub (env' := []) trivial ?_
        exact hk4 _ _ ⟨rfl, rfl, hr⟩
    | succ n9 =>
      obtain ⟨nx8, hnx8, hr⟩ := forK_succ hr
      try dsimp only at hr
      unfold syllogistref_Labels_b7 at hr
      try dsimp only at hr
      have hlti_6 := fr_bnd hni_6
      refine Tr.seq ?_
      refine Tr.seq ?_
      refine Tr.region_f (fun _ => false) ?_
      refine W.q rfl rfl rfl rfl (by decide) (Yd.mv rfl (.t rfl)) ?_
      refine W.q rfl rfl rfl rfl (by decide) (Yd.mv rfl (.t rfl)) ?_
      refine W.q rfl rfl rfl rfl (by decide) (Yd.lenR ha_0 rfl Try.underlying22 (.t rfl)) ?_
      refine W.q rfl rfl rfl rfl (by decide) (Yd.lss rfl (.t rfl) (.t rfl)) ?_
      refine W.end ?_
      refine NX.sub (env' := [(0, _), (1, _), (5, _), (14, _)]) ⟨rfl, rfl, rfl, rfl, trivial⟩ ?_
      refine NX.then ?_
      refine Tr.cond (.t rfl) (fun hb => ?_) (fun hb => ?_)
      rotate_left
      · exact absurd (hb.symm.trans (fr_go hni_6)) (by decide)
      ·
        refine Tr.skip' ?_
        refine NX.then ?_
        refine Tr.seq ?_
        refine Tr.block ?_
        refine Tr.seq ?_
        obtain ⟨y10, hy11, hr⟩ := bind_some hr
        obtain ⟨y12, hy13, hr⟩ := bind_some hr
        refine Tr.region_x (fun _ => false) (fun _ => false) (Ord.of [0, 1, 2, 3, 4, 5, 6, 7, 8]) FM (by kernel_rfl) ?_
        refine W.q rfl rfl rfl rfl (by decide) (Yd.mv rfl (.t rfl)) ?_
        refine W.q rfl rfl rfl rfl (by decide) (Yd.mv rfl (.t rfl)) ?_
        refine W.q rfl rfl rfl rfl (by decide) (Yd.idxR ha_0 hy11 rfl Try.underlying22 SZ65 (.t rfl) (.t rfl)) ?_
        refine W.q rfl rfl rfl rfl (by decide) (Yd.ldFs (us := [_, _]) ha_0 (.refl _) hy11 rfl rfl ON65 US65 SZ65 (.t rfl)) ?_
        refine W.q rfl rfl rfl rfl (by decide) (Yd.mv rfl (.t rfl)) ?_
        refine W.q rfl rfl rfl rfl (by decide) (Yd.mv rfl (.t rfl)) ?_
        refine W.q rfl rfl rfl rfl (by decide) (Yd.idxR hb_1 hy13 rfl Try.underlying22 SZ65 (.t rfl) (.t rfl)) ?_
        refine W.q rfl rfl rfl rfl (by decide) (Yd.ldFs (us := [_, _]) hb_1 (.refl _) hy13 rfl rfl ON65 US65 SZ65 (.t rfl)) ?_
        refine W.q rfl rfl rfl rfl (by decide) (Yd.neA rfl GU65 (fun w => ne_of_eq (EQ65 w y10.level y10.parts y12.level y12.parts)) (.t rfl) (.t rfl)) ?_
        refine W.end ?_
        refine NX.sub (env' := [(0, _), (1, _), (5, _), (25, _)]) ⟨rfl, rfl, rfl, rfl, trivial⟩ ?_
        refine NX.then ?_
        refine Tr.cond (.t rfl) (fun hb => ?_) (fun hb => ?_)
        · have hr := cond_t hb hr
          refine Tr.seq ?_
          refine Tr.region_f (fun _ => false) ?_
          refine W.q rfl rfl rfl rfl (by decide) (Yd.as rfl .c) ?_
          refine W.end ?_
          refine NX.sub (env' := [(4, _)]) ⟨rfl, trivial⟩ ?_
          refine NX.then ?_
          refine Tr.ret' (RT.block (RT.then (RT.then (RT.block (RT.then ?_)))))
          refine res1 rfl rfl ?_
          intro w hc
          cases hr
          exact ⟨rfl, hc⟩
        · have hr := cond_f hb hr
          refine Tr.skip' ?_
          refine NX.block ?_
          refine NX.then ?_
          refine Tr.region_f (fun _ => false) ?_
          refine W.q rfl rfl rfl rfl (by decide) (Yd.mv rfl (.t rfl)) ?_
          refine W.q rfl rfl rfl rfl (by decide) (Yd.add rfl (.t rfl) .c) ?_
          refine W.q rfl rfl rfl rfl (by decide) (Yd.as rfl (.t rfl)) ?_
          refine W.end ?_
          refine NX.sub (env' := [(0, _), (1, _), (5, _)]) ⟨rfl, rfl, rfl, trivial⟩ ?_
          refine NX.sub (env' := [(0, _), (1, _), (5, _)]) ⟨rfl, rfl, rfl, trivial⟩ ?_
          have hw := w64_id (n := i_6 + 1) (by omega) (by omega)
          exact NX.again n9 (i_6 + 1, ()) (Nat.lt_succ_self _) ⟨(by rw [hw] <;> rfl), rfl, (fr_dec hni_6), (by omega), ((hnx8 _).symm.trans hr)⟩

def syllogistref_Words_k3 : Option (Bool) :=
  some true

def syllogistref_Words_b7 (a_0 : List (BitVec 32)) (b_1 : List (BitVec 32)) (i_6 : Int) (nx8 : Unit → Option (Bool)) : Option (Bool) :=
  (geti a_0 i_6).bind fun y10 =>
  (geti b_1 i_6).bind fun y12 =>
  (bif (y10 != y12) then
  some false
  else
  nx8 ())

def syllogistref_Words (a_0 : List (BitVec 32)) (b_1 : List (BitVec 32)) : Option (Bool) :=
  (bif ((a_0.length : Int) != (b_1.length : Int)) then
  some false
  else
  forK (σ := Unit) (fun i s nx_ => syllogistref_Words_b7 a_0 b_1 i nx_) (fun _ => syllogistref_Words_k3) ((a_0.length : Int) - (0 : Int)).toNat (0 : Int) ())

set_option maxRecDepth 100000 in
set_option maxHeartbeats 4000000 in
theorem syllogistref_Words_ok (w0 : World) (m : Snap) (l : List HI) (ua_0 : Value) (a_0 : List (BitVec 32)) (ha_0 : RS rU m ua_0 a_0) (ub_1 : Value) (b_1 : List (BitVec 32)) (hb_1 : RS rU m ub_1 b_1) (r : Bool) (hr : syllogistref_Words a_0 b_1 = some r) (w : World) (hc : cX w0 ⟨m, l⟩ w) :
    Calls Try.prog 15 [ua_0, ub_1].toArray w fun e w' => e = .returned (.bool r) ∧ cX w0 ⟨m, l⟩ w' := by
  unfold syllogistref_Words at hr
  refine calls_of_Tr (N := 26) Try.func15 rfl hc rfl (Nat.le_of_ble_eq_true rfl) ?_
  refine Tr.seq ?_
  refine Tr.region_f (fun _ => false) ?_
  refine W.q rfl rfl rfl rfl (by decide) (Yd.as rfl .c) ?_
  refine W.end ?_
  refine NX.sub (env' := [(0, _), (1, _)]) ⟨rfl, rfl, trivial⟩ ?_
  refine NX.then ?_
  refine Tr.seq ?_
  refine Tr.seq ?_
  refine Tr.region_f (fun _ => false) ?_
  refine W.q rfl rfl rfl rfl (by decide) (Yd.mv rfl (.t rfl)) ?_
  refine W.q rfl rfl rfl rfl (by decide) (Yd.lenR ha_0 rfl Try.underlying25 (.t rfl)) ?_
  refine W.q rfl rfl rfl rfl (by decide) (Yd.mv rfl (.t rfl)) ?_
  refine W.q rfl rfl rfl rfl (by decide) (Yd.lenR hb_1 rfl Try.underlying25 (.t rfl)) ?_
  refine W.q rfl rfl rfl rfl (by decide) (Yd.neq rfl (.t rfl) (.t rfl)) ?_
  refine W.end ?_
  refine NX.sub (env' := [(0, _), (1, _), (10, _)]) ⟨rfl, rfl, rfl, trivial⟩ ?_
  refine NX.then ?_
  refine Tr.cond (.t rfl) (fun hb => ?_) (fun hb => ?_)
  · have hr := cond_t hb hr
    refine Tr.seq ?_
    refine Tr.region_f (fun _ => false) ?_
    refine W.q rfl rfl rfl rfl (by decide) (Yd.as rfl .c) ?_
    refine W.end ?_
    refine NX.sub (env' := [(4, _)]) ⟨rfl, trivial⟩ ?_
    refine NX.then ?_
    refine Tr.ret' (RT.then ?_)
    refine res1 rfl rfl ?_
    intro w hc
    cases hr
    exact ⟨rfl, hc⟩
  · have hr := cond_f hb hr
    refine Tr.skip' ?_
    refine NX.then ?_
    refine Tr.seq ?_
    refine Tr.seq ?_
    refine Tr.region_f (fun _ => false) ?_
    refine W.q rfl rfl rfl rfl (by decide) (Yd.as rfl .c) ?_
    refine W.end ?_
    refine NX.sub (env' := [(0, _), (1, _), (5, _)]) ⟨rfl, rfl, rfl, trivial⟩ ?_
    refine NX.then ?_
    refine Tr.join (S := fun env x => env = [] ∧ x = ⟨m, l⟩ ∧ syllogistref_Words_k3 = some r) ?_ (fun hk4 => ?_)
    · rintro _ _ ⟨rfl, rfl, hr⟩
      unfold syllogistref_Words_k3 at hr
      try dsimp only at hr
      refine NX.then ?_
      refine Tr.seq ?_
      refine Tr.region_f (fun _ => false) ?_
      refine W.q rfl rfl rfl rfl (by decide) (Yd.as rfl .c) ?_
      refine W.end ?_
      refine NX.sub (env' := [(4, _)]) ⟨rfl, trivial⟩ ?_
      refine NX.then ?_
      refine Tr.ret' ?_
      refine res1 rfl rfl ?_
      intro w hc
      cases hr
      exact ⟨rfl, hc⟩
    have hlen5 := (ha_0).2.1
    refine Tr.block ?_
    refine Tr.sub (env' := [(0, _), (1, _), (5, _)]) ⟨rfl, rfl, rfl, trivial⟩ ?_
    refine Tr.loop (S := fun n (z : Int × Unit) env x => match z with | (i_6, _) => env = [(0, ua_0), (1, ub_1), (5, .int .i64 i_6)] ∧ x = ⟨m, l⟩ ∧ n = ((a_0.length : Int) - i_6).toNat ∧ 0 ≤ i_6 ∧ forK (σ := Unit) (fun i s nx_ => syllogistref_Words_b7 a_0 b_1 i nx_) (fun _ => syllogistref_Words_k3) n i_6 () = some r) _ ((0 : Int), ()) ⟨rfl, rfl, rfl, (by omega), hr⟩ ?_
    rintro n9 ⟨i_6, _⟩ env x ⟨rfl, rfl, hni_6, h0i_6, hr⟩
    cases n9 with
    | zero =>
      simp only [forK] at hr
      refine Tr.seq ?_
      refine Tr.seq ?_
      refine Tr.region_f (fun _ => false) ?_
      refine W.q rfl rfl rfl rfl (by decide) (Yd.mv rfl (.t rfl)) ?_
      refine W.q rfl rfl rfl rfl (by decide) (Yd.mv rfl (.t rfl)) ?_
      refine W.q rfl rfl rfl rfl (by decide) (Yd.lenR ha_0 rfl Try.underlying25 (.t rfl)) ?_
      refine W.q rfl rfl rfl rfl (by decide) (Yd.lss rfl (.t rfl) (.t rfl)) ?_
      refine W.end ?_
      refine NX.sub (env' := [(0, _), (1, _), (5, _), (14, _)]) ⟨rfl, rfl, rfl, rfl, trivial⟩ ?_
      refine NX.then ?_
      refine Tr.cond (.t rfl) (fun hb => ?_) (fun hb => ?_)
      · exact absurd (hb.symm.trans (fr_end hni_6)) (by decide)
      ·
        refine Tr.exit' (EX.then (EX.then (EX.block ?_)))
        refine NX.sub (env' := []) trivial ?_
        exact hk4 _ _ ⟨rfl, rfl, hr⟩
    | succ n9 =>
      obtain ⟨nx8, hnx8, hr⟩ := forK_succ hr
      try dsimp only at hr
      unfold syllogistref_Words_b7 at hr
      try dsimp only at hr
      have hlti_6 := fr_bnd hni_6
      refine Tr.seq ?_
      refine Tr.seq ?_
      refine Tr.region_f (fun _ => false) ?_
      refine W.q rfl rfl rfl rfl (by decide) (Yd.mv rfl (.t rfl)) ?_
      refine W.q rfl rfl rfl rfl (by decide) (Yd.mv rfl (.t rfl)) ?_
      refine W.q rfl rfl rfl rfl (by decide) (Yd.lenR ha_0 rfl Try.underlying25 (.t rfl)) ?_
      refine W.q rfl rfl rfl rfl (by decide) (Yd.lss rfl (.t rfl) (.t rfl)) ?_
      refine W.end ?_
      refine NX.sub (env' := [(0, _), (1, _), (5, _), (14, _)]) ⟨rfl, rfl, rfl, rfl, trivial⟩ ?_
      refine NX.then ?_
      refine Tr.cond (.t rfl) (fun hb => ?_) (fun hb => ?_)
      rotate_left
      · exact absurd (hb.symm.trans (fr_go hni_6)) (by decide)
      ·
        refine Tr.skip' ?_
        refine NX.then ?_
        refine Tr.seq ?_
        refine Tr.block ?_
        refine Tr.seq ?_
        obtain ⟨y10, hy11, hr⟩ := bind_some hr
        obtain ⟨y12, hy13, hr⟩ := bind_some hr
        refine Tr.region_x (fun _ => false) (fun _ => false) (Ord.of [0, 1, 2, 3, 4, 5, 6, 7, 8]) FM (by kernel_rfl) ?_
        refine W.q rfl rfl rfl rfl (by decide) (Yd.mv rfl (.t rfl)) ?_
        refine W.q rfl rfl rfl rfl (by decide) (Yd.mv rfl (.t rfl)) ?_
        refine W.q rfl rfl rfl rfl (by decide) (Yd.idxR ha_0 hy11 rfl Try.underlying25 SZ63 (.t rfl) (.t rfl)) ?_
        refine W.q rfl rfl rfl rfl (by decide) (Yd.ldF ha_0 (.refl _) hy11 rfl rfl ON63 (.t rfl)) ?_
        refine W.q rfl rfl rfl rfl (by decide) (Yd.mv rfl (.t rfl)) ?_
        refine W.q rfl rfl rfl rfl (by decide) (Yd.mv rfl (.t rfl)) ?_
        refine W.q rfl rfl rfl rfl (by decide) (Yd.idxR hb_1 hy13 rfl Try.underlying25 SZ63 (.t rfl) (.t rfl)) ?_
        refine W.q rfl rfl rfl rfl (by decide) (Yd.ldF hb_1 (.refl _) hy13 rfl rfl ON63 (.t rfl)) ?_
        refine W.q rfl rfl rfl rfl (by decide) (Yd.neqU (a := y10) (b := y12) rfl (.t rfl) (.t rfl)) ?_
        refine W.end ?_
        refine NX.sub (env' := [(0, _), (1, _), (5, _), (25, _)]) ⟨rfl, rfl, rfl, rfl, trivial⟩ ?_
        refine NX.then ?_
        refine Tr.cond (.t rfl) (fun hb => ?_) (fun hb => ?_)
        · have hr := cond_t hb hr
          refine Tr.seq ?_
          refine Tr.region_f (fun _ => false) ?_
          refine W.q rfl rfl rfl rfl (by decide) (Yd.as rfl .c) ?_
          refine W.end ?_
          refine NX.sub (env' := [(4, _)]) ⟨rfl, trivial⟩ ?_
          refine NX.then ?_
          refine Tr.ret' (RT.block (RT.then (RT.then (RT.block (RT.then ?_)))))
          refine res1 rfl rfl ?_
          intro w hc
          cases hr
          exact ⟨rfl, hc⟩
        · have hr := cond_f hb hr
          refine Tr.skip' ?_
          refine NX.block ?_
          refine NX.then ?_
          refine Tr.region_f (fun _ => false) ?_
          refine W.q rfl rfl rfl rfl (by decide) (Yd.mv rfl (.t rfl)) ?_
          refine W.q rfl rfl rfl rfl (by decide) (Yd.add rfl (.t rfl) .c) ?_
          refine W.q rfl rfl rfl rfl (by decide) (Yd.as rfl (.t rfl)) ?_
          refine W.end ?_
          refine NX.sub (env' := [(0, _), (1, _), (5, _)]) ⟨rfl, rfl, rfl, trivial⟩ ?_
          refine NX.sub (env' := [(0, _), (1, _), (5, _)]) ⟨rfl, rfl, rfl, trivial⟩ ?_
          have hw := w64_id (n := i_6 + 1) (by omega) (by omega)
          exact NX.again n9 (i_6 + 1, ()) (Nat.lt_succ_self _) ⟨(by rw [hw] <;> rfl), rfl, (fr_dec hni_6), (by omega), ((hnx8 _).symm.trans hr)⟩

def syllogistlaw_MarkPlays_k32 (r4 : Marked × Int) (r15 : Int) (c22 : List Int) (c25 : List Label) (c28 : List (BitVec 32)) : Option (Bool) :=
  bif (!((r4.2 == r15) == true) || (syllogistref_Codes r4.1.codes c22).isSome) then
  bif (!(((r4.2 == r15) && (((syllogistref_Codes r4.1.codes c22).getD false))) == true) || (syllogistref_Labels r4.1.marks c25).isSome) then
  bif (!((((r4.2 == r15) && (((syllogistref_Codes r4.1.codes c22).getD false))) && (((syllogistref_Labels r4.1.marks c25).getD false))) == true) || (syllogistref_Words r4.1.src c28).isSome) then
  some (((((r4.2 == r15) && (((syllogistref_Codes r4.1.codes c22).getD false))) && (((syllogistref_Labels r4.1.marks c25).getD false))) && (((syllogistref_Words r4.1.src c28).getD false)))) else none else none else none

def syllogistlaw_MarkPlays (clear_0 : List Label) (things_1 : List Label) (script_2 : List Deed) : Option (Bool) :=
  (mark_Play clear_0 things_1 script_2).bind fun r4 =>
  (syllogistref_MarkCheck clear_0 things_1 ((script_2.length : Int))).bind fun r15 =>
  (bif (r15 == (0 : Int)) then
  (syllogistref_Mark clear_0 things_1 script_2 true).bind fun r37 =>
  syllogistlaw_MarkPlays_k32 r4 r15 r37.codes r37.marks r37.src
  else
  syllogistlaw_MarkPlays_k32 r4 r15 (([] : List Int)) (([] : List Label)) (([] : List (BitVec 32))))

set_option maxRecDepth 100000 in
set_option maxHeartbeats 4000000 in
theorem syllogistlaw_MarkPlays_ok (w0 : World) (m : Snap) (l : List HI) (uclear_0 : Value) (clear_0 : List Label) (hclear_0 : RS rLabel m uclear_0 clear_0) (uthings_1 : Value) (things_1 : List Label) (hthings_1 : RS rLabel m uthings_1 things_1) (uscript_2 : Value) (script_2 : List Deed) (hscript_2 : RS rDeed m uscript_2 script_2) (r : Bool) (hr : syllogistlaw_MarkPlays clear_0 things_1 script_2 = some r) (w : World) (hc : cX w0 ⟨m, l⟩ w) :
    Calls Try.prog 3 [uclear_0, uthings_1, uscript_2].toArray w fun e w' => e = .returned (.bool r) ∧ cX w0 ⟨m, l⟩ w' := by
  unfold syllogistlaw_MarkPlays at hr
  refine calls_of_Tr (N := 54) Try.func3 rfl hc rfl (Nat.le_of_ble_eq_true rfl) ?_
  refine Tr.seq ?_
  refine Tr.region_f (fun _ => false) ?_
  refine W.q rfl rfl rfl rfl (by decide) (Yd.as rfl .c) ?_
  refine W.end ?_
  refine NX.sub (env' := [(0, _), (1, _), (2, _)]) ⟨rfl, rfl, rfl, trivial⟩ ?_
  refine NX.then ?_
  refine Tr.seq ?_
  refine Tr.addnil 28 1 ?_
  refine Tr.cast (m' := m) (l' := hownT 28 1 encI (.slice none 0 0) (([] : List Int)) :: l) rfl rfl ?_
  refine Tr.addnil 65 2 ?_
  refine Tr.cast (m' := m) (l' := hownT 65 2 Label.enc (.slice none 0 0) (([] : List Label)) :: hownT 28 1 encI (.slice none 0 0) (([] : List Int)) :: l) rfl rfl ?_
  refine Tr.addnil 63 1 ?_
  refine Tr.cast (m' := m) (l' := hownT 63 1 encU (.slice none 0 0) (([] : List (BitVec 32))) :: hownT 65 2 Label.enc (.slice none 0 0) (([] : List Label)) :: hownT 28 1 encI (.slice none 0 0) (([] : List Int)) :: l) rfl rfl ?_
  obtain ⟨r4, hr5, hr⟩ := bind_some hr
  refine Tr.region_f (fun i => Nat.beq i 3 || Nat.beq i 7 || Nat.beq i 8) ?_
  refine W.q rfl rfl rfl rfl (by decide) (Yd.mv rfl (.t rfl)) ?_
  refine W.q rfl rfl rfl rfl (by decide) (Yd.mv rfl (.t rfl)) ?_
  refine W.q rfl rfl rfl rfl (by decide) (Yd.mv rfl (.t rfl)) ?_
  refine W.e rfl rfl rfl rfl (by decide) (Ef.call (R := fun z x' => ∃ u7 : Value, ∃ u9 : Value, ∃ u11 : Value, ∃ m6 : Snap, z = .tuple #[.agg #[u7, u9, u11], .int .i64 r4.2] ∧ x' = ⟨m6, hownT 63 1 encU (.slice none 0 0) (([] : List (BitVec 32))) :: hownT 65 2 Label.enc (.slice none 0 0) (([] : List Label)) :: hownT 28 1 encI (.slice none 0 0) (([] : List Int)) :: l⟩ ∧ Sle m m6 ∧ RS rI m6 u7 r4.1.codes ∧ RS rLabel m6 u9 r4.1.marks ∧ RS rU m6 u11 r4.1.src) rfl Try.func10 rfl rfl (.cons (.t rfl) (.cons (.t rfl) (.cons (.t rfl) .nil))) (fun w hw => (mark_Play_ok w0 _ _ _ _ hclear_0 _ _ hthings_1 _ _ hscript_2 _ hr5 w hw).mono fun e w' ⟨u7, u9, u11, m6, he, hm', hu8, hu10, hu12, hc'⟩ => ⟨_, _, he, ⟨u7, u9, u11, m6, rfl, rfl, hm', hu8, hu10, hu12⟩, hc'⟩)) ?_
  rintro _ _ ⟨u7, u9, u11, m6, rfl, rfl, hsm6, hu8, hu10, hu12⟩
  have hclear_0 := hclear_0.mono hsm6
  have hthings_1 := hthings_1.mono hsm6
  have hscript_2 := hscript_2.mono hsm6
  refine ⟨.inl rfl, ?_⟩
  refine W.cast (m' := m6) (l' := hownT 63 1 encU (.slice none 0 0) (([] : List (BitVec 32))) :: hownT 65 2 Label.enc (.slice none 0 0) (([] : List Label)) :: hownT 28 1 encI (.slice none 0 0) (([] : List Int)) :: l) rfl rfl ?_
  refine W.q rfl rfl rfl rfl (by decide) (Yd.mv rfl (.t rfl)) ?_
  refine W.q rfl rfl rfl rfl (by decide) (Yd.ext rfl (.t rfl) rfl) ?_
  refine W.q rfl rfl rfl rfl (by decide) (Yd.ext rfl (.t rfl) rfl) ?_
  refine W.e rfl rfl rfl rfl (by decide) (Ef.al rfl ZR27 rfl) ?_
  rintro _ _ ⟨b13, rfl, rfl⟩
  refine ⟨.inl rfl, ?_⟩
  refine W.cast (m' := m6) (l' := hcells b13 [_, _, _] 27 :: hownT 63 1 encU (.slice none 0 0) (([] : List (BitVec 32))) :: hownT 65 2 Label.enc (.slice none 0 0) (([] : List Label)) :: hownT 28 1 encI (.slice none 0 0) (([] : List Int)) :: l) rfl rfl ?_
  refine W.s rfl rfl rfl rfl (Ef.stBs (pos := 0) (us := [u7, u9, u11]) (cs' := [_, _, _]) (.cons (On.ro hu8) (.cons (On.ro hu10) (.cons (On.ro hu12) .nil))) rfl rfl (.t rfl) (.t rfl) SZ27 rfl rfl (Nat.le_of_ble_eq_true rfl) rfl) ?_
  rintro _ _ ⟨rfl, rfl⟩
  refine ⟨.inl rfl, ?_⟩
  refine W.cast (m' := m6) (l' := hcells b13 [_, _, _] 27 :: hownT 63 1 encU (.slice none 0 0) (([] : List (BitVec 32))) :: hownT 65 2 Label.enc (.slice none 0 0) (([] : List Label)) :: hownT 28 1 encI (.slice none 0 0) (([] : List Int)) :: l) rfl rfl ?_
  refine W.q rfl rfl rfl rfl (by decide) (Yd.as rfl (.t rfl)) ?_
  refine W.end ?_
  refine NX.sub (env' := [(0, _), (1, _), (2, _), (7, _), (8, _)]) ⟨rfl, rfl, rfl, rfl, rfl, trivial⟩ ?_
  refine NX.drop (l' := hcells b13 [_, _, _] 27 :: l) (.cons_cons _ (.cons _ (.cons _ (.cons _ (.refl _))))) ?_
  refine NX.then ?_
  refine Tr.seq ?_
  obtain ⟨r15, hr16, hr⟩ := bind_some hr
  refine Tr.region_f (fun _ => false) ?_
  refine W.q rfl rfl rfl rfl (by decide) (Yd.mv rfl (.t rfl)) ?_
  refine W.q rfl rfl rfl rfl (by decide) (Yd.mv rfl (.t rfl)) ?_
  refine W.q rfl rfl rfl rfl (by decide) (Yd.mv rfl (.t rfl)) ?_
  refine W.q rfl rfl rfl rfl (by decide) (Yd.lenR hscript_2 rfl Try.underlying23 (.t rfl)) ?_
  refine W.q rfl rfl rfl rfl (by decide) (Yd.call (v := .int .i64 r15) rfl Try.func11 rfl rfl (.cons (.t rfl) (.cons (.t rfl) (.cons (.t rfl) .nil))) (fun x' hx w hw => syllogistref_MarkCheck_ok w0 x'.m x'.l _ _ (hclear_0.mono hx.1) _ _ (hthings_1.mono hx.1) ((script_2.length : Int)) _ hr16 w hw)) ?_
  refine W.q rfl rfl rfl rfl (by decide) (Yd.as rfl (.t rfl)) ?_
  refine W.end ?_
  refine NX.sub (env' := [(0, _), (1, _), (2, _), (7, _), (8, _), (9, _)]) ⟨rfl, rfl, rfl, rfl, rfl, rfl, trivial⟩ ?_
  refine NX.then ?_
  refine Tr.seq ?_
  refine Tr.addnil 28 1 ?_
  refine Tr.cast (m' := m6) (l' := hownT 28 1 encI (.slice none 0 0) (([] : List Int)) :: hcells b13 [u7, u9, u11] 27 :: l) rfl rfl ?_
  refine Tr.addnil 65 2 ?_
  refine Tr.cast (m' := m6) (l' := hownT 65 2 Label.enc (.slice none 0 0) (([] : List Label)) :: hownT 28 1 encI (.slice none 0 0) (([] : List Int)) :: hcells b13 [u7, u9, u11] 27 :: l) rfl rfl ?_
  refine Tr.addnil 63 1 ?_
  refine Tr.cast (m' := m6) (l' := hownT 63 1 encU (.slice none 0 0) (([] : List (BitVec 32))) :: hownT 65 2 Label.enc (.slice none 0 0) (([] : List Label)) :: hownT 28 1 encI (.slice none 0 0) (([] : List Int)) :: hcells b13 [u7, u9, u11] 27 :: l) rfl rfl ?_
  refine Tr.region_f (fun i => Nat.beq i 1 || Nat.beq i 2) ?_
  refine W.q rfl rfl rfl rfl (by decide) (Yd.bld (cells := [.slice none 0 0, .slice none 0 0, .slice none 0 0]) rfl ZI27 PL27 .nil rfl) ?_
  refine W.e rfl rfl rfl rfl (by decide) (Ef.al rfl ZR27 rfl) ?_
  rintro _ _ ⟨b20, rfl, rfl⟩
  refine ⟨.inl rfl, ?_⟩
  refine W.cast (m' := m6) (l' := hcells b20 [_, _, _] 27 :: hownT 63 1 encU (.slice none 0 0) (([] : List (BitVec 32))) :: hownT 65 2 Label.enc (.slice none 0 0) (([] : List Label)) :: hownT 28 1 encI (.slice none 0 0) (([] : List Int)) :: hcells b13 [_, _, _] 27 :: l) rfl rfl ?_
  refine W.s rfl rfl rfl rfl (Ef.stB (pos := 0) (us := [_, _, _]) (cs' := [_, _, _]) rfl rfl (.t rfl) (.t rfl) SZ27 rfl rfl rfl (Nat.le_of_ble_eq_true rfl) rfl) ?_
  rintro _ _ ⟨rfl, rfl⟩
  refine ⟨.inl rfl, ?_⟩
  refine W.cast (m' := m6) (l' := hcells b20 [_, _, _] 27 :: hownT 63 1 encU (.slice none 0 0) (([] : List (BitVec 32))) :: hownT 65 2 Label.enc (.slice none 0 0) (([] : List Label)) :: hownT 28 1 encI (.slice none 0 0) (([] : List Int)) :: hcells b13 [_, _, _] 27 :: l) rfl rfl ?_
  refine W.end ?_
  refine NX.sub (env' := [(0, _), (1, _), (2, _), (7, _), (8, _), (9, _), (10, _)]) ⟨rfl, rfl, rfl, rfl, rfl, rfl, rfl, trivial⟩ ?_
  refine NX.then ?_
  refine Tr.seq ?_
  refine Tr.seq ?_
  refine Tr.region_f (fun _ => false) ?_
  refine W.q rfl rfl rfl rfl (by decide) (Yd.mv rfl (.t rfl)) ?_
  refine W.q rfl rfl rfl rfl (by decide) (Yd.eql rfl (.t rfl) .c) ?_
  refine W.end ?_
  refine NX.sub (env' := [(0, _), (1, _), (2, _), (7, _), (8, _), (9, _), (10, _), (25, _)]) ⟨rfl, rfl, rfl, rfl, rfl, rfl, rfl, rfl, trivial⟩ ?_
  refine NX.then ?_
  refine Tr.join (S := fun env x => ∃ c22 : List Int, ∃ c25 : List Label, ∃ c28 : List (BitVec 32), ∃ m31 : Snap, ∃ u23 : Value, ∃ u26 : Value, ∃ u29 : Value, Sle m6 m31 ∧ RS rI m31 u23 c22 ∧ RS rLabel m31 u26 c25 ∧ RS rU m31 u29 c28 ∧ env = [(7, bp b13 0), (8, .int .i64 r4.2), (9, .int .i64 r15), (10, bp b20 0)] ∧ x = ⟨m31, hcells b20 [u23, u26, u29] 27 :: hcells b13 [u7, u9, u11] 27 :: l⟩ ∧ syllogistlaw_MarkPlays_k32 r4 r15 c22 c25 c28 = some r) ?_ (fun hk33 => ?_)
  · rintro _ _ ⟨c22, c25, c28, m31, u23, u26, u29, hsm31, hu24, hu27, hu30, rfl, rfl, hr⟩
    unfold syllogistlaw_MarkPlays_k32 at hr
    try dsimp only at hr
    have hclear_0 := hclear_0.mono hsm31
    have hthings_1 := hthings_1.mono hsm31
    have hscript_2 := hscript_2.mono hsm31
    have hu8 := hu8.mono hsm31
    have hu10 := hu10.mono hsm31
    have hu12 := hu12.mono hsm31
    refine NX.then ?_
    refine Tr.seq ?_
    obtain ⟨ha34, hr⟩ := guard_some hr
    obtain ⟨ha35, hr⟩ := guard_some hr
    obtain ⟨ha36, hr⟩ := guard_some hr
    refine Tr.region_f (fun _ => false) ?_
    refine W.q rfl rfl rfl rfl (by decide) (Yd.mv rfl (.t rfl)) ?_
    refine W.q rfl rfl rfl rfl (by decide) (Yd.mv rfl (.t rfl)) ?_
    refine W.q rfl rfl rfl rfl (by decide) (Yd.eql rfl (.t rfl) (.t rfl)) ?_
    refine W.q rfl rfl rfl rfl (by decide) (Yd.mv rfl (.t rfl)) ?_
    refine W.g rfl rfl rfl rfl rfl (.t rfl _) rfl (by decide) (fun hG => Yd.fldB rfl Try.underlying27 rfl SZ24 rfl (.t rfl)) ?_
    refine W.g rfl rfl rfl rfl rfl (.t rfl _) rfl (by decide) (fun hG => Yd.ldB (pos := 1) rfl rfl rfl ON24 (.g rfl hG)) ?_
    refine W.g rfl rfl rfl rfl rfl (.t rfl _) rfl (by decide) (fun hG => Yd.fldB rfl Try.underlying27 rfl SZ24 rfl (.t rfl)) ?_
    refine W.g rfl rfl rfl rfl rfl (.t rfl _) rfl (by decide) (fun hG => Yd.ldB (pos := 0) rfl rfl rfl ON24 (.g rfl hG)) ?_
    refine W.g rfl rfl rfl rfl rfl (.t rfl _) rfl (by decide) (fun hG => Yd.call (v := .bool ((((syllogistref_Codes r4.1.codes c22).getD false)))) rfl Try.func13 rfl rfl (.cons (.g rfl hG) (.cons (.g rfl hG) .nil)) (fun x' hx w hw => syllogistref_Codes_ok w0 x'.m x'.l _ _ (hu8.mono hx.1) _ _ (hu24.mono hx.1) _ (gd_get (d := false) ha34 hG) w hw)) ?_
    refine W.q rfl rfl rfl rfl (by decide) (Yd.and rfl (.t rfl) .c rfl rfl) ?_
    refine W.q rfl rfl rfl rfl (by decide) (Yd.mv rfl (.t rfl)) ?_
    refine W.g rfl rfl rfl rfl rfl (.t rfl _) rfl (by decide) (fun hG => Yd.fldB rfl Try.underlying27 rfl SZ22 rfl (.t rfl)) ?_
    refine W.g rfl rfl rfl rfl rfl (.t rfl _) rfl (by decide) (fun hG => Yd.ldB (pos := 1) rfl rfl rfl ON22 (.g rfl hG)) ?_
    refine W.g rfl rfl rfl rfl rfl (.t rfl _) rfl (by decide) (fun hG => Yd.fldB rfl Try.underlying27 rfl SZ22 rfl (.t rfl)) ?_
    refine W.g rfl rfl rfl rfl rfl (.t rfl _) rfl (by decide) (fun hG => Yd.ldB (pos := 0) rfl rfl rfl ON22 (.g rfl hG)) ?_
    refine W.g rfl rfl rfl rfl rfl (.t rfl _) rfl (by decide) (fun hG => Yd.call (v := .bool ((((syllogistref_Labels r4.1.marks c25).getD false)))) rfl Try.func14 rfl rfl (.cons (.g rfl hG) (.cons (.g rfl hG) .nil)) (fun x' hx w hw => syllogistref_Labels_ok w0 x'.m x'.l _ _ (hu10.mono hx.1) _ _ (hu27.mono hx.1) _ (gd_get (d := false) ha35 hG) w hw)) ?_
    refine W.q rfl rfl rfl rfl (by decide) (Yd.and rfl (.t rfl) .c rfl rfl) ?_
    refine W.q rfl rfl rfl rfl (by decide) (Yd.mv rfl (.t rfl)) ?_
    refine W.g rfl rfl rfl rfl rfl (.t rfl _) rfl (by decide) (fun hG => Yd.fldB rfl Try.underlying27 rfl SZ25 rfl (.t rfl)) ?_
    refine W.g rfl rfl rfl rfl rfl (.t rfl _) rfl (by decide) (fun hG => Yd.ldB (pos := 1) rfl rfl rfl ON25 (.g rfl hG)) ?_
    refine W.g rfl rfl rfl rfl rfl (.t rfl _) rfl (by decide) (fun hG => Yd.fldB rfl Try.underlying27 rfl SZ25 rfl (.t rfl)) ?_
    refine W.g rfl rfl rfl rfl rfl (.t rfl _) rfl (by decide) (fun hG => Yd.ldB (pos := 0) rfl rfl rfl ON25 (.g rfl hG)) ?_
    refine W.g rfl rfl rfl rfl rfl (.t rfl _) rfl (by decide) (fun hG => Yd.call (v := .bool ((((syllogistref_Words r4.1.src c28).getD false)))) rfl Try.func15 rfl rfl (.cons (.g rfl hG) (.cons (.g rfl hG) .nil)) (fun x' hx w hw => syllogistref_Words_ok w0 x'.m x'.l _ _ (hu12.mono hx.1) _ _ (hu30.mono hx.1) _ (gd_get (d := false) ha36 hG) w hw)) ?_
    refine W.q rfl rfl rfl rfl (by decide) (Yd.and rfl (.t rfl) .c rfl rfl) ?_
    refine W.q rfl rfl rfl rfl (by decide) (Yd.as rfl (.t rfl)) ?_
    refine W.end ?_
    refine NX.sub (env' := [(6, _)]) ⟨rfl, trivial⟩ ?_
    refine NX.drop (l' := l) (.cons _ (.cons _ (.refl _))) ?_
    refine NX.then ?_
    refine Tr.ret' ?_
    refine res1 rfl rfl ?_
    intro w hc
    cases hr
    exact ⟨rfl, (cX_le (x := ⟨m, _⟩) ⟨(hsm6.trans hsm31), [], rfl⟩ hc)⟩
  refine Tr.cond (.t rfl) (fun hb => ?_) (fun hb => ?_)
  · have hr := cond_t hb hr
    obtain ⟨r37, hr38, hr⟩ := bind_some hr
    refine Tr.region_f (fun i => Nat.beq i 3 || Nat.beq i 4) ?_
    refine W.q rfl rfl rfl rfl (by decide) (Yd.mv rfl (.t rfl)) ?_
    refine W.q rfl rfl rfl rfl (by decide) (Yd.mv rfl (.t rfl)) ?_
    refine W.q rfl rfl rfl rfl (by decide) (Yd.mv rfl (.t rfl)) ?_
    refine W.e rfl rfl rfl rfl (by decide) (Ef.call (R := fun z x' => ∃ u40 : Value, ∃ u42 : Value, ∃ u44 : Value, ∃ m39 : Snap, z = .agg #[u40, u42, u44] ∧ x' = ⟨m39, hcells b20 [(.slice none 0 0), (.slice none 0 0), (.slice none 0 0)] 27 :: hownT 63 1 encU (.slice none 0 0) (([] : List (BitVec 32))) :: hownT 65 2 Label.enc (.slice none 0 0) (([] : List Label)) :: hownT 28 1 encI (.slice none 0 0) (([] : List Int)) :: hcells b13 [u7, u9, u11] 27 :: l⟩ ∧ Sle m6 m39 ∧ RS rI m39 u40 r37.codes ∧ RS rLabel m39 u42 r37.marks ∧ RS rU m39 u44 r37.src) rfl Try.func12 rfl rfl (.cons (.t rfl) (.cons (.t rfl) (.cons (.t rfl) (.cons .c .nil)))) (fun w hw => (syllogistref_Mark_ok w0 _ _ _ _ hclear_0 _ _ hthings_1 _ _ hscript_2 true _ hr38 w hw).mono fun e w' ⟨u40, u42, u44, m39, he, hm', hu41, hu43, hu45, hc'⟩ => ⟨_, _, he, ⟨u40, u42, u44, m39, rfl, rfl, hm', hu41, hu43, hu45⟩, hc'⟩)) ?_
    rintro _ _ ⟨u40, u42, u44, m39, rfl, rfl, hsm39, hu41, hu43, hu45⟩
    have hclear_0 := hclear_0.mono hsm39
    have hthings_1 := hthings_1.mono hsm39
    have hscript_2 := hscript_2.mono hsm39
    have hu8 := hu8.mono hsm39
    have hu10 := hu10.mono hsm39
    have hu12 := hu12.mono hsm39
    refine ⟨.inl rfl, ?_⟩
    refine W.cast (m' := m39) (l' := hcells b20 [_, _, _] 27 :: hownT 63 1 encU (.slice none 0 0) (([] : List (BitVec 32))) :: hownT 65 2 Label.enc (.slice none 0 0) (([] : List Label)) :: hownT 28 1 encI (.slice none 0 0) (([] : List Int)) :: hcells b13 [_, _, _] 27 :: l) rfl rfl ?_
    refine W.s rfl rfl rfl rfl (Ef.stBs (pos := 0) (us := [u40, u42, u44]) (cs' := [_, _, _]) (.cons (On.ro hu41) (.cons (On.ro hu43) (.cons (On.ro hu45) .nil))) rfl rfl (.t rfl) (.t rfl) SZ27 rfl rfl (Nat.le_of_ble_eq_true rfl) rfl) ?_
    rintro _ _ ⟨rfl, rfl⟩
    refine ⟨.inl rfl, ?_⟩
    refine W.cast (m' := m39) (l' := hcells b20 [_, _, _] 27 :: hownT 63 1 encU (.slice none 0 0) (([] : List (BitVec 32))) :: hownT 65 2 Label.enc (.slice none 0 0) (([] : List Label)) :: hownT 28 1 encI (.slice none 0 0) (([] : List Int)) :: hcells b13 [_, _, _] 27 :: l) rfl rfl ?_
    refine W.end ?_
    refine NX.sub (env' := [(7, _), (8, _), (9, _), (10, _)]) ⟨rfl, rfl, rfl, rfl, trivial⟩ ?_
    refine NX.drop (l' := hcells b20 [_, _, _] 27 :: hcells b13 [_, _, _] 27 :: l) (.cons_cons _ (.cons _ (.cons _ (.cons _ (.cons_cons _ (.refl _)))))) ?_
    refine NX.sub (env' := [(7, _), (8, _), (9, _), (10, _)]) ⟨rfl, rfl, rfl, rfl, trivial⟩ ?_
    exact hk33 _ _ ⟨_, _, _, _, _, _, _, hsm39, hu41, hu43, hu45, rfl, rfl, hr⟩
  · have hr := cond_f hb hr
    refine Tr.skip' ?_
    refine NX.freezeT (enc := encI) (n := 1) (pos := 3) (xs := ([] : List Int)) (fun _ => rfl) rfl (fun m46 hsm46 hu47 => ?_)
    have hclear_0 := hclear_0.mono hsm46
    have hthings_1 := hthings_1.mono hsm46
    have hscript_2 := hscript_2.mono hsm46
    have hu8 := hu8.mono hsm46
    have hu10 := hu10.mono hsm46
    have hu12 := hu12.mono hsm46
    refine NX.cast (m' := m46) (l' := hcells b20 [_, _, _] 27 :: hownT 63 1 encU (.slice none 0 0) (([] : List (BitVec 32))) :: hownT 65 2 Label.enc (.slice none 0 0) (([] : List Label)) :: hcells b13 [_, _, _] 27 :: l) rfl rfl ?_
    refine NX.freezeT (enc := Label.enc) (n := 2) (pos := 2) (xs := ([] : List Label)) (fun _ => rfl) rfl (fun m48 hsm48 hu49 => ?_)
    have hclear_0 := hclear_0.mono hsm48
    have hthings_1 := hthings_1.mono hsm48
    have hscript_2 := hscript_2.mono hsm48
    have hu8 := hu8.mono hsm48
    have hu10 := hu10.mono hsm48
    have hu12 := hu12.mono hsm48
    have hu47 := hu47.mono hsm48
    refine NX.cast (m' := m48) (l' := hcells b20 [_, _, _] 27 :: hownT 63 1 encU (.slice none 0 0) (([] : List (BitVec 32))) :: hcells b13 [_, _, _] 27 :: l) rfl rfl ?_
    refine NX.freezeT (enc := encU) (n := 1) (pos := 1) (xs := ([] : List (BitVec 32))) (fun _ => rfl) rfl (fun m50 hsm50 hu51 => ?_)
    have hclear_0 := hclear_0.mono hsm50
    have hthings_1 := hthings_1.mono hsm50
    have hscript_2 := hscript_2.mono hsm50
    have hu8 := hu8.mono hsm50
    have hu10 := hu10.mono hsm50
    have hu12 := hu12.mono hsm50
    have hu47 := hu47.mono hsm50
    have hu49 := hu49.mono hsm50
    refine NX.cast (m' := m50) (l' := hcells b20 [_, _, _] 27 :: hcells b13 [_, _, _] 27 :: l) rfl rfl ?_
    refine NX.sub (env' := [(7, _), (8, _), (9, _), (10, _)]) ⟨rfl, rfl, rfl, rfl, trivial⟩ ?_
    exact hk33 _ _ ⟨_, _, _, _, _, _, _, ((hsm46.trans hsm48).trans hsm50), hu47, hu49, hu51, rfl, rfl, hr⟩
end Go.Proofs.Ytcihfhfolofomaa.Sy
