/- Functions of the program as plain functions, and that the translation computes them; the conditions stand in each theorem. Printed by an own program. -/
import Derived.Test.YtajgcmeegencoaaG1a
import Derived.Test.YtajgcmeegencoaaProg
namespace Go.Proofs.Ytajgcmeegencoaa.Sy
open Go
set_option linter.unusedVariables false
def syllogistref_Wall_k69 (l55 : List (BitVec 32)) (l57 : List Int) (l67 : List (BitVec 32)) : Option (Walled) :=
  some (({ codes := l57, read := l67, src := l55 } : Walled))

def syllogistref_Wall_k91 (l65 : List (BitVec 32)) (nx80 : ((List (BitVec 32)) → Option (Walled))) (set_90 : BitVec 32) : Option (Walled) :=
  bif decide (l65.length + (([set_90] : List (BitVec 32))).length ≤ 35184372088832) then
  nx80 (l65 ++ ([set_90] : List (BitVec 32))) else none

def syllogistref_Wall_b99 (y82 : (List Int)) (t_98 : Int) (set_88 : BitVec 32) (nx100 : (BitVec 32) → Option (Walled)) : Option (Walled) :=
  (geti y82 t_98).bind fun y102 =>
  nx100 (set_88 + (1#32 <<< ((BitVec.ofInt 64 y102)).toNat))

def syllogistref_Wall_b79 (l51 : List (List Int)) (t_78 : Int) (l65 : List (BitVec 32)) (nx80 : (List (BitVec 32)) → Option (Walled)) : Option (Walled) :=
  (geti l51 t_78).bind fun y82 =>
  bif decide ((y82.length : Int) ≤ 9223372036854775807) then
  forK (σ := (BitVec 32)) (fun i s nx_ => syllogistref_Wall_b99 y82 i s nx_) (fun s => syllogistref_Wall_k91 l65 nx80 s) ((y82.length : Int) - (0 : Int)).toNat (0 : Int) (0#32) else none

def syllogistref_Wall_k59 (l51 : List (List Int)) (l55 : List (BitVec 32)) (l57 : List Int) : Option (Walled) :=
  forK (σ := (List (BitVec 32))) (fun i s nx_ => syllogistref_Wall_b79 l51 i s nx_) (fun s => syllogistref_Wall_k69 l55 l57 s) ((l51.length : Int) - (0 : Int)).toNat (0 : Int) (([] : List (BitVec 32)))

def syllogistref_Wall_k122 (l47 : List Int) (nx107 : (((List (BitVec 32)) × (List (List Int)) × (List (BitVec 32)) × (List Int)) → Option (Walled))) (e_113 : Int) (l114 : List (BitVec 32)) (l116 : List (List Int)) (l120 : List (BitVec 32)) : Option (Walled) :=
  bif decide (l47.length + (([e_113] : List Int)).length ≤ 17592186044416) then
  nx107 (l114, l116, l120, (l47 ++ ([e_113] : List Int))) else none

def syllogistref_Wall_k147 (l45 : List (BitVec 32)) (l47 : List Int) (nx107 : (((List (BitVec 32)) × (List (List Int)) × (List (BitVec 32)) × (List Int)) → Option (Walled))) (y109 : Deed) (e_138 : Int) (l141 : List (BitVec 32)) (l143 : List (List Int)) : Option (Walled) :=
  (bif ((e_138 == (0 : Int)) && (y109.kind == (2 : Int))) then
  (geti l45 y109.to).bind fun y149 =>
  (geti l141 y109.by_).bind fun y151 =>
  syllogistref_Wall_k122 l47 nx107 e_138 l141 l143 ((l45.set y109.to.toNat ((y149 ||| y151))))
  else
  syllogistref_Wall_k122 l47 nx107 e_138 l141 l143 l45)

def syllogistref_Wall_k163 (l39 : List (BitVec 32)) (l45 : List (BitVec 32)) (l47 : List Int) (nx107 : (((List (BitVec 32)) × (List (List Int)) × (List (BitVec 32)) × (List Int)) → Option (Walled))) (y109 : Deed) (e_138 : Int) (l159 : List (List Int)) : Option (Walled) :=
  (geti l39 y109.by_).bind fun y165 =>
  (geti l45 y109.to).bind fun y167 =>
  syllogistref_Wall_k147 l45 l47 nx107 y109 e_138 ((l39.set y109.by_.toNat ((y165 ||| y167)))) l159

def syllogistref_Wall_k139 (l39 : List (BitVec 32)) (l41 : List (List Int)) (l45 : List (BitVec 32)) (l47 : List Int) (nx107 : (((List (BitVec 32)) × (List (List Int)) × (List (BitVec 32)) × (List Int)) → Option (Walled))) (y109 : Deed) (e_138 : Int) : Option (Walled) :=
  (bif ((e_138 == (0 : Int)) && (y109.kind == (1 : Int))) then
  (geti l41 y109.by_).bind fun y153 =>
  (syllogistref_Has y153 y109.to).bind fun r157 =>
  (bif (!r157) then
  (geti l41 y109.by_).bind fun y169 =>
  bif decide (y169.length + (([y109.to] : List Int)).length ≤ 17592186044416) then
  syllogistref_Wall_k163 l39 l45 l47 nx107 y109 e_138 ((l41.set y109.by_.toNat ((y169 ++ ([y109.to] : List Int))))) else none
  else
  syllogistref_Wall_k163 l39 l45 l47 nx107 y109 e_138 l41)
  else
  syllogistref_Wall_k147 l45 l47 nx107 y109 e_138 l39 l41)

def syllogistref_Wall_b186 (firm_1 : List Int) (class_2 : List Int) (y109 : Deed) (y128 : Int) (y130 : (List Int)) (t_185 : Int) (e_136 : Int) (nx187 : Int → Option (Walled)) : Option (Walled) :=
  (geti y130 t_185).bind fun y189 =>
  (geti firm_1 y189).bind fun y191 =>
  bif (!(((((y109.kind == (1 : Int)) && (decide (y191 ≥ (0 : Int)))) && (decide (y128 ≥ (0 : Int)))) && (y191 != y128)) == true) || (geti class_2 y191).isSome) then
  bif (!(((((y109.kind == (1 : Int)) && (decide (y191 ≥ (0 : Int)))) && (decide (y128 ≥ (0 : Int)))) && (y191 != y128)) == true) || (geti class_2 y128).isSome) then
  (bif ((((((y109.kind == (1 : Int)) && (decide (y191 ≥ (0 : Int)))) && (decide (y128 ≥ (0 : Int)))) && (y191 != y128)) && (((geti class_2 y191).getD (0 : Int)) == ((geti class_2 y128).getD (0 : Int)))) || (((y109.kind == (2 : Int)) && (decide (y191 ≥ (0 : Int)))) && (y191 != y128))) then
  nx187 (7 : Int)
  else
  nx187 e_136) else none else none

def syllogistref_Wall_b106 (who_0 : Int) (firm_1 : List Int) (class_2 : List Int) (script_3 : List Deed) (t_105 : Int) (l39 : List (BitVec 32)) (l41 : List (List Int)) (l45 : List (BitVec 32)) (l47 : List Int) (nx107 : ((List (BitVec 32)) × (List (List Int)) × (List (BitVec 32)) × (List Int)) → Option (Walled)) : Option (Walled) :=
  (geti script_3 t_105).bind fun y109 =>
  (bif ((y109.kind != (1 : Int)) && (y109.kind != (2 : Int))) then
  syllogistref_Wall_k122 l47 nx107 ((6 : Int)) l39 l41 l45
  else
  (bif ((((decide (y109.by_ < (0 : Int))) || (decide (y109.by_ ≥ who_0))) || (decide (y109.to < (0 : Int)))) || (decide (y109.to ≥ (firm_1.length : Int)))) then
  syllogistref_Wall_k122 l47 nx107 ((2 : Int)) l39 l41 l45
  else
  (geti firm_1 y109.to).bind fun y128 =>
  (geti l41 y109.by_).bind fun y130 =>
  bif decide ((y130.length : Int) ≤ 9223372036854775807) then
  forK (σ := Int) (fun i s nx_ => syllogistref_Wall_b186 firm_1 class_2 y109 y128 y130 i s nx_) (fun s => syllogistref_Wall_k139 l39 l41 l45 l47 nx107 y109 s) ((y130.length : Int) - (0 : Int)).toNat (0 : Int) ((0 : Int)) else none))

def syllogistref_Wall_k25 (who_0 : Int) (firm_1 : List Int) (class_2 : List Int) (script_3 : List Deed) (l23 : List (BitVec 32)) : Option (Walled) :=
  forK (σ := (List (BitVec 32)) × (List (List Int)) × (List (BitVec 32)) × (List Int)) (fun i s nx_ => syllogistref_Wall_b106 who_0 firm_1 class_2 script_3 i s.1 s.2.1 s.2.2.1 s.2.2.2 nx_) (fun s => syllogistref_Wall_k59 s.2.1 s.2.2.1 s.2.2.2) ((script_3.length : Int) - (0 : Int)).toNat (0 : Int) (((List.replicate who_0.toNat (0#32))), ((List.replicate who_0.toNat ([] : List Int))), l23, (([] : List Int)))

def syllogistref_Wall_b197 (i_196 : Int) (l21 : List (BitVec 32)) (nx198 : (List (BitVec 32)) → Option (Walled)) : Option (Walled) :=
  bif decide (l21.length + (([(1#32 <<< ((BitVec.ofInt 64 i_196)).toNat)] : List (BitVec 32))).length ≤ 35184372088832) then
  nx198 (l21 ++ ([(1#32 <<< ((BitVec.ofInt 64 i_196)).toNat)] : List (BitVec 32))) else none

def syllogistref_Wall (who_0 : Int) (firm_1 : List Int) (class_2 : List Int) (script_3 : List Deed) : Option (Walled) :=
  bif decide (0 ≤ who_0 ∧ who_0 ≤ 1048576) then
  bif decide (0 ≤ who_0 ∧ who_0 ≤ 1048576) then
  forK (σ := (List (BitVec 32))) (fun i s nx_ => syllogistref_Wall_b197 i s nx_) (fun s => syllogistref_Wall_k25 who_0 firm_1 class_2 script_3 s) ((firm_1.length : Int) - (0 : Int)).toNat (0 : Int) (([] : List (BitVec 32))) else none else none

set_option maxRecDepth 100000 in
set_option maxHeartbeats 4000000 in
theorem syllogistref_Wall_ok (w0 : World) (m : Snap) (l : List HI) (who_0 : Int) (ufirm_1 : Value) (firm_1 : List Int) (hfirm_1 : RS rI m ufirm_1 firm_1) (uclass_2 : Value) (class_2 : List Int) (hclass_2 : RS rI m uclass_2 class_2) (uscript_3 : Value) (script_3 : List Deed) (hscript_3 : RS rDeed m uscript_3 script_3) (r : Walled) (hr : syllogistref_Wall who_0 firm_1 class_2 script_3 = some r) (w : World) (hc : cX w0 ⟨m, l⟩ w) :
    Calls Try.prog 6 [.int .i64 who_0, ufirm_1, uclass_2, uscript_3].toArray w fun e w' => ∃ z0 : Value, ∃ z1 : Value, ∃ z2 : Value, ∃ m1 : Snap, e = .returned (.agg #[z0, z1, z2]) ∧ Sle m m1 ∧ RS rI m1 z0 r.codes ∧ RS rU m1 z1 r.read ∧ RS rU m1 z2 r.src ∧ cX w0 ⟨m1, l⟩ w' := by
  unfold syllogistref_Wall at hr
  refine calls_of_Tr (N := 242) Try.func6 rfl hc rfl (Nat.le_of_ble_eq_true rfl) ?_
  refine Tr.seq ?_
  refine Tr.addnil 28 1 ?_
  refine Tr.cast (m' := m) (l' := hownT 28 1 encI (.slice none 0 0) (([] : List Int)) :: l) rfl rfl ?_
  refine Tr.addnil 39 1 ?_
  refine Tr.cast (m' := m) (l' := hownT 39 1 encU (.slice none 0 0) (([] : List (BitVec 32))) :: hownT 28 1 encI (.slice none 0 0) (([] : List Int)) :: l) rfl rfl ?_
  refine Tr.addnil 39 1 ?_
  refine Tr.cast (m' := m) (l' := hownT 39 1 encU (.slice none 0 0) (([] : List (BitVec 32))) :: hownT 39 1 encU (.slice none 0 0) (([] : List (BitVec 32))) :: hownT 28 1 encI (.slice none 0 0) (([] : List Int)) :: l) rfl rfl ?_
  refine Tr.region_f (fun i => Nat.beq i 0) ?_
  refine W.e rfl rfl rfl rfl (by decide) (Ef.al rfl ZR27 rfl) ?_
  rintro _ _ ⟨b4, rfl, rfl⟩
  refine ⟨.inl rfl, ?_⟩
  refine W.cast (m' := m) (l' := hcells b4 [_, _, _] 27 :: hownT 39 1 encU (.slice none 0 0) (([] : List (BitVec 32))) :: hownT 39 1 encU (.slice none 0 0) (([] : List (BitVec 32))) :: hownT 28 1 encI (.slice none 0 0) (([] : List Int)) :: l) rfl rfl ?_
  refine W.end ?_
  refine NX.sub (env' := [(0, _), (1, _), (2, _), (3, _), (8, _)]) ⟨rfl, rfl, rfl, rfl, rfl, trivial⟩ ?_
  refine NX.then ?_
  refine Tr.seq ?_
  refine Tr.addnil 28 1 ?_
  refine Tr.cast (m' := m) (l' := hownT 28 1 encI (.slice none 0 0) (([] : List Int)) :: hcells b4 [(.slice none 0 0), (.slice none 0 0), (.slice none 0 0)] 27 :: hownT 39 1 encU (.slice none 0 0) (([] : List (BitVec 32))) :: hownT 39 1 encU (.slice none 0 0) (([] : List (BitVec 32))) :: hownT 28 1 encI (.slice none 0 0) (([] : List Int)) :: l) rfl rfl ?_
  refine Tr.addnil 39 1 ?_
  refine Tr.cast (m' := m) (l' := hownT 39 1 encU (.slice none 0 0) (([] : List (BitVec 32))) :: hownT 28 1 encI (.slice none 0 0) (([] : List Int)) :: hcells b4 [(.slice none 0 0), (.slice none 0 0), (.slice none 0 0)] 27 :: hownT 39 1 encU (.slice none 0 0) (([] : List (BitVec 32))) :: hownT 39 1 encU (.slice none 0 0) (([] : List (BitVec 32))) :: hownT 28 1 encI (.slice none 0 0) (([] : List Int)) :: l) rfl rfl ?_
  refine Tr.addnil 39 1 ?_
  refine Tr.cast (m' := m) (l' := hownT 39 1 encU (.slice none 0 0) (([] : List (BitVec 32))) :: hownT 39 1 encU (.slice none 0 0) (([] : List (BitVec 32))) :: hownT 28 1 encI (.slice none 0 0) (([] : List Int)) :: hcells b4 [(.slice none 0 0), (.slice none 0 0), (.slice none 0 0)] 27 :: hownT 39 1 encU (.slice none 0 0) (([] : List (BitVec 32))) :: hownT 39 1 encU (.slice none 0 0) (([] : List (BitVec 32))) :: hownT 28 1 encI (.slice none 0 0) (([] : List Int)) :: l) rfl rfl ?_
  refine Tr.region_f (fun i => Nat.beq i 1 || Nat.beq i 2) ?_
  refine W.q rfl rfl rfl rfl (by decide) (Yd.bld (cells := [.slice none 0 0, .slice none 0 0, .slice none 0 0]) rfl ZI27 PL27 .nil rfl) ?_
  refine W.e rfl rfl rfl rfl (by decide) (Ef.al rfl ZR27 rfl) ?_
  rintro _ _ ⟨b9, rfl, rfl⟩
  refine ⟨.inl rfl, ?_⟩
  refine W.cast (m' := m) (l' := hcells b9 [_, _, _] 27 :: hownT 39 1 encU (.slice none 0 0) (([] : List (BitVec 32))) :: hownT 39 1 encU (.slice none 0 0) (([] : List (BitVec 32))) :: hownT 28 1 encI (.slice none 0 0) (([] : List Int)) :: hcells b4 [_, _, _] 27 :: hownT 39 1 encU (.slice none 0 0) (([] : List (BitVec 32))) :: hownT 39 1 encU (.slice none 0 0) (([] : List (BitVec 32))) :: hownT 28 1 encI (.slice none 0 0) (([] : List Int)) :: l) rfl rfl ?_
  refine W.s rfl rfl rfl rfl (Ef.stB (pos := 0) (us := [_, _, _]) (cs' := [_, _, _]) rfl rfl (.t rfl) (.t rfl) SZ27 rfl rfl rfl (Nat.le_of_ble_eq_true rfl) rfl) ?_
  rintro _ _ ⟨rfl, rfl⟩
  refine ⟨.inl rfl, ?_⟩
  refine W.cast (m' := m) (l' := hcells b9 [_, _, _] 27 :: hownT 39 1 encU (.slice none 0 0) (([] : List (BitVec 32))) :: hownT 39 1 encU (.slice none 0 0) (([] : List (BitVec 32))) :: hownT 28 1 encI (.slice none 0 0) (([] : List Int)) :: hcells b4 [_, _, _] 27 :: hownT 39 1 encU (.slice none 0 0) (([] : List (BitVec 32))) :: hownT 39 1 encU (.slice none 0 0) (([] : List (BitVec 32))) :: hownT 28 1 encI (.slice none 0 0) (([] : List Int)) :: l) rfl rfl ?_
  refine W.end ?_
  refine NX.sub (env' := [(0, _), (1, _), (2, _), (3, _), (8, _), (9, _)]) ⟨rfl, rfl, rfl, rfl, rfl, rfl, trivial⟩ ?_
  refine NX.then ?_
  refine Tr.seq ?_
  obtain ⟨hq11, hr⟩ := guard_some hr; replace hq11 := of_decide_eq_true hq11
  refine Tr.region_f (fun i => Nat.beq i 1) ?_
  refine W.q rfl rfl rfl rfl (by decide) (Yd.mv rfl (.t rfl)) ?_
  refine W.e rfl rfl rfl rfl (by decide) (Ef.mkM 3 1 encI IF22 rfl rfl Try.underlying45 (.t rfl) (.t rfl) (by omega) (by omega) (by omega)) ?_
  rintro v12 _ rfl
  refine ⟨.inl rfl, ?_⟩
  refine W.cast (m' := m) (l' := hown 22 1 v12 _ _ :: hrows 3 1 encI _ _ :: hcells b9 [_, _, _] 27 :: hownT 39 1 encU (.slice none 0 0) (([] : List (BitVec 32))) :: hownT 39 1 encU (.slice none 0 0) (([] : List (BitVec 32))) :: hownT 28 1 encI (.slice none 0 0) (([] : List Int)) :: hcells b4 [_, _, _] 27 :: hownT 39 1 encU (.slice none 0 0) (([] : List (BitVec 32))) :: hownT 39 1 encU (.slice none 0 0) (([] : List (BitVec 32))) :: hownT 28 1 encI (.slice none 0 0) (([] : List Int)) :: l) rfl rfl ?_
  refine W.q rfl rfl rfl rfl (by decide) (Yd.as rfl (.t rfl)) ?_
  refine W.end ?_
  refine NX.sub (env' := [(0, _), (1, _), (2, _), (3, _), (8, _), (9, _), (10, _)]) ⟨rfl, rfl, rfl, rfl, rfl, rfl, rfl, trivial⟩ ?_
  refine NX.then ?_
  refine Tr.seq ?_
  obtain ⟨hq14, hr⟩ := guard_some hr; replace hq14 := of_decide_eq_true hq14
  refine Tr.region_f (fun i => Nat.beq i 1) ?_
  refine W.q rfl rfl rfl rfl (by decide) (Yd.mv rfl (.t rfl)) ?_
  refine W.e rfl rfl rfl rfl (by decide) (Ef.mkT (enc := encU) (0#32) IF39 rfl Try.underlying25 rfl rfl (by decide) (.t rfl) (.t rfl) (by omega) (by omega) (by omega)) ?_
  rintro v15 _ rfl
  refine ⟨.inl rfl, ?_⟩
  refine W.cast (m' := m) (l' := hownT 39 1 encU v15 _ :: hown 22 1 v12 _ _ :: hrows 3 1 encI _ _ :: hcells b9 [_, _, _] 27 :: hownT 39 1 encU (.slice none 0 0) (([] : List (BitVec 32))) :: hownT 39 1 encU (.slice none 0 0) (([] : List (BitVec 32))) :: hownT 28 1 encI (.slice none 0 0) (([] : List Int)) :: hcells b4 [_, _, _] 27 :: hownT 39 1 encU (.slice none 0 0) (([] : List (BitVec 32))) :: hownT 39 1 encU (.slice none 0 0) (([] : List (BitVec 32))) :: hownT 28 1 encI (.slice none 0 0) (([] : List Int)) :: l) rfl rfl ?_
  refine W.q rfl rfl rfl rfl (by decide) (Yd.as rfl (.t rfl)) ?_
  refine W.end ?_
  refine NX.sub (env' := [(0, _), (1, _), (2, _), (3, _), (8, _), (9, _), (10, _), (11, _)]) ⟨rfl, rfl, rfl, rfl, rfl, rfl, rfl, rfl, trivial⟩ ?_
  refine NX.then ?_
  refine Tr.seq ?_
  refine Tr.seq ?_
  refine Tr.region_f (fun _ => false) ?_
  refine W.q rfl rfl rfl rfl (by decide) (Yd.as rfl .c) ?_
  refine W.end ?_
  refine NX.sub (env' := [(0, _), (1, _), (2, _), (3, _), (8, _), (9, _), (10, _), (11, _), (12, _)]) ⟨rfl, rfl, rfl, rfl, rfl, rfl, rfl, rfl, rfl, trivial⟩ ?_
  refine NX.then ?_
  refine Tr.join (S := fun env x => ∃ l23 : List (BitVec 32), ∃ v24 : Value, env = [(0, .int .i64 who_0), (1, ufirm_1), (2, uclass_2), (3, uscript_3), (8, bp b4 0), (9, bp b9 0), (10, v12), (11, v15)] ∧ x = ⟨m, hownT 39 1 encU v15 ((List.replicate who_0.toNat (0#32))) :: hown 22 1 v12 ((List.replicate who_0.toNat ([] : List Int))).length (List.replicate who_0.toNat (Value.slice none 0 0)) :: hrows 3 1 encI ((List.replicate who_0.toNat (Value.slice none 0 0))) ((List.replicate who_0.toNat ([] : List Int))) :: hcells b9 [(.slice none 0 0), (.slice none 0 0), v24] 27 :: hownT 39 1 encU v24 l23 :: hownT 39 1 encU (.slice none 0 0) (([] : List (BitVec 32))) :: hownT 28 1 encI (.slice none 0 0) (([] : List Int)) :: hcells b4 [(.slice none 0 0), (.slice none 0 0), (.slice none 0 0)] 27 :: hownT 39 1 encU (.slice none 0 0) (([] : List (BitVec 32))) :: hownT 39 1 encU (.slice none 0 0) (([] : List (BitVec 32))) :: hownT 28 1 encI (.slice none 0 0) (([] : List Int)) :: l⟩ ∧ syllogistref_Wall_k25 who_0 firm_1 class_2 script_3 l23 = some r) ?_ (fun hk26 => ?_)
  · rintro _ _ ⟨l23, v24, rfl, rfl, hr⟩
    unfold syllogistref_Wall_k25 at hr
    try dsimp only at hr
    refine NX.then ?_
    refine Tr.seq ?_
    refine Tr.seq ?_
    refine Tr.region_f (fun _ => false) ?_
    refine W.q rfl rfl rfl rfl (by decide) (Yd.mv rfl (.t rfl)) ?_
    refine W.q rfl rfl rfl rfl (by decide) (Yd.lenR hscript_3 rfl Try.underlying23 (.t rfl)) ?_
    refine W.q rfl rfl rfl rfl (by decide) (Yd.mv rfl .c) ?_
    refine W.end ?_
    refine NX.sub (env' := [(0, _), (1, _), (2, _), (8, _), (9, _), (10, _), (11, _), (44, _), (45, _), (46, _)]) ⟨rfl, rfl, rfl, rfl, rfl, rfl, rfl, rfl, rfl, rfl, trivial⟩ ?_
    refine NX.then ?_
    refine Tr.join (S := fun env x => ∃ l51 : List (List Int), ∃ l55 : List (BitVec 32), ∃ l57 : List Int, ∃ v52 : Value, ∃ us53 : List Value, ∃ v56 : Value, ∃ v58 : Value, us53.length = l51.length ∧ env = [(8, bp b4 0), (9, bp b9 0), (10, v52)] ∧ x = ⟨m, hown 22 1 v52 l51.length us53 :: hrows 3 1 encI us53 l51 :: hcells b9 [v58, (.slice none 0 0), v56] 27 :: hownT 39 1 encU v56 l55 :: hownT 39 1 encU (.slice none 0 0) (([] : List (BitVec 32))) :: hownT 28 1 encI v58 l57 :: hcells b4 [(.slice none 0 0), (.slice none 0 0), (.slice none 0 0)] 27 :: hownT 39 1 encU (.slice none 0 0) (([] : List (BitVec 32))) :: hownT 39 1 encU (.slice none 0 0) (([] : List (BitVec 32))) :: hownT 28 1 encI (.slice none 0 0) (([] : List Int)) :: l⟩ ∧ syllogistref_Wall_k59 l51 l55 l57 = some r) ?_ (fun hk60 => ?_)
    · rintro _ _ ⟨l51, l55, l57, v52, us53, v56, v58, hw54, rfl, rfl, hr⟩
      unfold syllogistref_Wall_k59 at hr
      try dsimp only at hr
      refine NX.then ?_
      refine Tr.seq ?_
      refine Tr.seq ?_
      refine Tr.region_f (fun _ => false) ?_
      refine W.q rfl rfl rfl rfl (by decide) (Yd.mv rfl (.t rfl)) ?_
      refine W.q rfl rfl rfl rfl (by decide) (Yd.lenO (p := 0) rfl rfl Try.underlying45 (.t rfl)) ?_
      refine W.q rfl rfl rfl rfl (by decide) (Yd.mv rfl .c) ?_
      refine W.end ?_
      refine NX.sub (env' := [(8, _), (9, _), (216, _), (217, _), (218, _)]) ⟨rfl, rfl, rfl, rfl, rfl, trivial⟩ ?_
      refine NX.then ?_
      refine Tr.join (S := fun env x => ∃ l67 : List (BitVec 32), ∃ v68 : Value, env = [(8, bp b4 0), (9, bp b9 0)] ∧ x = ⟨m, hcells b9 [v58, v68, v56] 27 :: hownT 39 1 encU v56 l55 :: hownT 39 1 encU v68 l67 :: hownT 28 1 encI v58 l57 :: hcells b4 [(.slice none 0 0), (.slice none 0 0), (.slice none 0 0)] 27 :: hownT 39 1 encU (.slice none 0 0) (([] : List (BitVec 32))) :: hownT 39 1 encU (.slice none 0 0) (([] : List (BitVec 32))) :: hownT 28 1 encI (.slice none 0 0) (([] : List Int)) :: l⟩ ∧ syllogistref_Wall_k69 l55 l57 l67 = some r) ?_ (fun hk70 => ?_)
      · rintro _ _ ⟨l67, v68, rfl, rfl, hr⟩
        unfold syllogistref_Wall_k69 at hr
        try dsimp only at hr
        refine NX.then ?_
        refine Tr.seq ?_
        refine Tr.region_f (fun i => Nat.beq i 1) ?_
        refine W.q rfl rfl rfl rfl (by decide) (Yd.ldBs (pos := 0) (us := [_, _, _]) rfl rfl rfl rfl ON27 US27 SZ27 (.t rfl)) ?_
        refine W.s rfl rfl rfl rfl (Ef.stBs (pos := 4) (us := [v58, v68, v56]) (cs' := [_, _, _]) (.cons (On.own (pos := 3) rfl) (.cons (On.own (pos := 2) rfl) (.cons (On.own (pos := 1) rfl) .nil))) rfl rfl (.t rfl) (.t rfl) SZ27 rfl rfl (Nat.le_of_ble_eq_true rfl) rfl) ?_
        rintro _ _ ⟨rfl, rfl⟩
        refine ⟨.inl rfl, ?_⟩
        refine W.cast (m' := m) (l' := hcells b9 [_, _, _] 27 :: hownT 39 1 encU v56 _ :: hownT 39 1 encU v68 _ :: hownT 28 1 encI v58 _ :: hcells b4 [_, _, _] 27 :: hownT 39 1 encU (.slice none 0 0) (([] : List (BitVec 32))) :: hownT 39 1 encU (.slice none 0 0) (([] : List (BitVec 32))) :: hownT 28 1 encI (.slice none 0 0) (([] : List Int)) :: l) rfl rfl ?_
        refine W.end ?_
        refine NX.sub (env' := [(8, _)]) ⟨rfl, trivial⟩ ?_
        refine NX.drop (l' := hownT 39 1 encU v56 _ :: hownT 39 1 encU v68 _ :: hownT 28 1 encI v58 _ :: hcells b4 [_, _, _] 27 :: l) (.cons _ (.cons_cons _ (.cons_cons _ (.cons_cons _ (.cons_cons _ (.cons _ (.cons _ (.cons _ (.refl _))))))))) ?_
        refine NX.then ?_
        refine Tr.ret' ?_
        refine resV1 rfl (Rv.cs (pos := 3) rfl rfl rfl ON27 US27 SZ27) ?_
        intro w hc
        cases hr
        obtain ⟨m71, hsm71, hu72, hc⟩ := cX_freeze (enc := encI) (n := 1) (p := 2) (fun _ => rfl) hc rfl
        have hfirm_1 := hfirm_1.mono hsm71
        have hclass_2 := hclass_2.mono hsm71
        have hscript_3 := hscript_3.mono hsm71
        obtain ⟨m73, hsm73, hu74, hc⟩ := cX_freeze (enc := encU) (n := 1) (p := 1) (fun _ => rfl) hc rfl
        have hfirm_1 := hfirm_1.mono hsm73
        have hclass_2 := hclass_2.mono hsm73
        have hscript_3 := hscript_3.mono hsm73
        have hu72 := hu72.mono hsm73
        obtain ⟨m75, hsm75, hu76, hc⟩ := cX_freeze (enc := encU) (n := 1) (p := 0) (fun _ => rfl) hc rfl
        have hfirm_1 := hfirm_1.mono hsm75
        have hclass_2 := hclass_2.mono hsm75
        have hscript_3 := hscript_3.mono hsm75
        have hu72 := hu72.mono hsm75
        have hu74 := hu74.mono hsm75
        exact ⟨_, _, _, _, rfl, ((hsm71.trans hsm73).trans hsm75), hu72, hu74, hu76, (cX_sub (.cons _ (.refl _)) hc)⟩
      refine Tr.lenO (pos := 0) rfl (fun hlen77 => ?_)
      refine Tr.block ?_
      refine Tr.sub (env' := [(8, _), (9, _), (216, _), (217, _), (218, _)]) ⟨rfl, rfl, rfl, rfl, rfl, trivial⟩ ?_
      refine Tr.loop (S := fun n (z : Int × (List (BitVec 32))) env x => match z with | (t_78, l65) => ∃ v66 : Value, env = [(8, bp b4 0), (9, bp b9 0), (216, v52), (217, .int .i64 ((l51.length : Int))), (218, .int .i64 t_78)] ∧ x = ⟨m, hown 22 1 v52 l51.length us53 :: hrows 3 1 encI us53 l51 :: hcells b9 [v58, v66, v56] 27 :: hownT 39 1 encU v56 l55 :: hownT 39 1 encU v66 l65 :: hownT 28 1 encI v58 l57 :: hcells b4 [(.slice none 0 0), (.slice none 0 0), (.slice none 0 0)] 27 :: hownT 39 1 encU (.slice none 0 0) (([] : List (BitVec 32))) :: hownT 39 1 encU (.slice none 0 0) (([] : List (BitVec 32))) :: hownT 28 1 encI (.slice none 0 0) (([] : List Int)) :: l⟩ ∧ n = ((l51.length : Int) - t_78).toNat ∧ 0 ≤ t_78 ∧ forK (σ := (List (BitVec 32))) (fun i s nx_ => syllogistref_Wall_b79 l51 i s nx_) (fun s => syllogistref_Wall_k69 l55 l57 s) n t_78 l65 = some r) _ ((0 : Int), ([] : List (BitVec 32))) ⟨_, rfl, rfl, rfl, (by omega), hr⟩ ?_
      rintro n81 ⟨t_78, l65⟩ env x ⟨v66, rfl, rfl, hnt_78, h0t_78, hr⟩
      cases n81 with
      | zero =>
        simp only [forK] at hr
        refine Tr.seq ?_
        refine Tr.region_f (fun _ => false) ?_
        refine W.q rfl rfl rfl rfl (by decide) (Yd.lss rfl (.t rfl) (.t rfl)) ?_
        refine W.end ?_
        refine NX.sub (env' := [(8, _), (9, _), (216, _), (217, _), (218, _), (219, _)]) ⟨rfl, rfl, rfl, rfl, rfl, rfl, trivial⟩ ?_
        refine NX.then ?_
        refine Tr.seq ?_
        refine Tr.cond (.t rfl) (fun hb => ?_) (fun hb => ?_)
        · exact absurd (hb.symm.trans (fr_end hnt_78)) (by decide)
        ·
          refine Tr.exit' (EX.then (EX.then (EX.block ?_)))
          refine NX.sub (env' := [(8, _), (9, _)]) ⟨rfl, rfl, trivial⟩ ?_
          refine NX.drop (l' := hcells b9 [_, _, _] 27 :: hownT 39 1 encU v56 _ :: hownT 39 1 encU v66 _ :: hownT 28 1 encI v58 _ :: hcells b4 [_, _, _] 27 :: hownT 39 1 encU (.slice none 0 0) (([] : List (BitVec 32))) :: hownT 39 1 encU (.slice none 0 0) (([] : List (BitVec 32))) :: hownT 28 1 encI (.slice none 0 0) (([] : List Int)) :: l) (.cons _ (.cons _ (.cons_cons _ (.cons_cons _ (.cons_cons _ (.cons_cons _ (.cons_cons _ (.cons_cons _ (.cons_cons _ (.cons_cons _ (.refl _))))))))))) ?_
          exact hk70 _ _ ⟨_, _, rfl, rfl, hr⟩
      | succ n81 =>
        obtain ⟨nx80, hnx80, hr⟩ := forK_succ hr
        try dsimp only at hr
        unfold syllogistref_Wall_b79 at hr
        try dsimp only at hr
        have hltt_78 := fr_bnd hnt_78
        refine Tr.seq ?_
        refine Tr.region_f (fun _ => false) ?_
        refine W.q rfl rfl rfl rfl (by decide) (Yd.lss rfl (.t rfl) (.t rfl)) ?_
        refine W.end ?_
        refine NX.sub (env' := [(8, _), (9, _), (216, _), (217, _), (218, _), (219, _)]) ⟨rfl, rfl, rfl, rfl, rfl, rfl, trivial⟩ ?_
        refine NX.then ?_
        refine Tr.seq ?_
        refine Tr.cond (.t rfl) (fun hb => ?_) (fun hb => ?_)
        rotate_left
        · exact absurd (hb.symm.trans (fr_go hnt_78)) (by decide)
        ·
          refine Tr.skip' ?_
          refine NX.then ?_
          refine Tr.seq ?_
          refine Tr.block ?_
          refine Tr.seq ?_
          obtain ⟨y82, hy83, hr⟩ := bind_some hr
          refine Tr.region_f (fun _ => false) ?_
          refine W.q rfl rfl rfl rfl (by decide) (Yd.idxO (pos := 0) (xs := l51) rfl hy83 rfl Try.underlying45 SZ22 (.t rfl) (.t rfl)) ?_
          obtain ⟨u84, hu85⟩ := us_get hw54 hy83
          refine W.q rfl rfl rfl rfl (by decide) (Yd.ldU (pos := 0) rfl hu85 rfl ON22 (.t rfl)) ?_
          refine W.q rfl rfl rfl rfl (by decide) (Yd.as rfl (.t rfl)) ?_
          refine W.end ?_
          refine NX.sub (env' := [(8, _), (9, _), (216, _), (217, _), (218, _), (21, _)]) ⟨rfl, rfl, rfl, rfl, rfl, rfl, trivial⟩ ?_
          refine NX.then ?_
          refine Tr.seq ?_
          refine Tr.region_f (fun _ => false) ?_
          refine W.q rfl rfl rfl rfl (by decide) (Yd.as rfl .c) ?_
          refine W.end ?_
          refine NX.sub (env' := [(8, _), (9, _), (216, _), (217, _), (218, _), (21, _), (22, _)]) ⟨rfl, rfl, rfl, rfl, rfl, rfl, rfl, trivial⟩ ?_
          refine NX.then ?_
          refine Tr.seq ?_
          refine Tr.seq ?_
          refine Tr.region_f (fun _ => false) ?_
          refine W.q rfl rfl rfl rfl (by decide) (Yd.mv rfl (.t rfl)) ?_
          refine W.q rfl rfl rfl rfl (by decide) (Yd.lenM (pos := 1) rfl hu85 hy83 rfl Try.underlying22 (.t rfl)) ?_
          refine W.q rfl rfl rfl rfl (by decide) (Yd.mv rfl .c) ?_
          refine W.end ?_
          refine NX.sub (env' := [(8, _), (9, _), (216, _), (217, _), (218, _), (22, _), (222, _), (223, _), (224, _)]) ⟨rfl, rfl, rfl, rfl, rfl, rfl, rfl, rfl, rfl, trivial⟩ ?_
          refine NX.then ?_
          refine Tr.join (S := fun env x => ∃ set_90 : BitVec 32, env = [(8, bp b4 0), (9, bp b9 0), (216, v52), (217, .int .i64 ((l51.length : Int))), (218, .int .i64 t_78), (22, .int .u32 (set_90.toNat : Int))] ∧ x = ⟨m, hown 22 1 v52 l51.length us53 :: hrows 3 1 encI us53 l51 :: hcells b9 [v58, v66, v56] 27 :: hownT 39 1 encU v56 l55 :: hownT 39 1 encU v66 l65 :: hownT 28 1 encI v58 l57 :: hcells b4 [(.slice none 0 0), (.slice none 0 0), (.slice none 0 0)] 27 :: hownT 39 1 encU (.slice none 0 0) (([] : List (BitVec 32))) :: hownT 39 1 encU (.slice none 0 0) (([] : List (BitVec 32))) :: hownT 28 1 encI (.slice none 0 0) (([] : List Int)) :: l⟩ ∧ syllogistref_Wall_k91 l65 nx80 set_90 = some r) ?_ (fun hk92 => ?_)
          · rintro _ _ ⟨set_90, rfl, rfl, hr⟩
            unfold syllogistref_Wall_k91 at hr
            try dsimp only at hr
            refine NX.then ?_
            obtain ⟨hq96, hr⟩ := guard_some hr; replace hq96 := of_decide_eq_true hq96
            refine Tr.region_f (fun i => Nat.beq i 3 || Nat.beq i 4 || Nat.beq i 6) ?_
            refine W.q rfl rfl rfl rfl (by decide) (Yd.fldB rfl Try.underlying27 rfl SZ25 rfl (.t rfl)) ?_
            refine W.q rfl rfl rfl rfl (by decide) (Yd.ldB (pos := 2) rfl rfl rfl ON25 (.t rfl)) ?_
            refine W.q rfl rfl rfl rfl (by decide) (Yd.mv rfl (.t rfl)) ?_
            refine W.e rfl rfl rfl rfl (by decide) (Ef.bsT (enc := encU) (vs := [_]) (ys := [set_90]) (fun _ => rfl) IF39 rfl Try.underlying25 (by decide) rfl (.cons (.t rfl) .nil) rfl rfl (by decide)) ?_
            rintro v93 _ rfl
            refine ⟨.inl rfl, ?_⟩
            refine W.cast (m' := m) (l' := hownT 39 1 encU v93 _ :: hown 22 1 v52 _ _ :: hrows 3 1 encI _ _ :: hcells b9 [_, _, _] 27 :: hownT 39 1 encU v56 _ :: hownT 39 1 encU v66 _ :: hownT 28 1 encI v58 _ :: hcells b4 [_, _, _] 27 :: hownT 39 1 encU (.slice none 0 0) (([] : List (BitVec 32))) :: hownT 39 1 encU (.slice none 0 0) (([] : List (BitVec 32))) :: hownT 28 1 encI (.slice none 0 0) (([] : List Int)) :: l) rfl rfl ?_
            refine W.e rfl rfl rfl rfl (by decide) (Ef.apI (pos := 5) (enc := encU) (xs := l65) (ys := ([set_90] : List (BitVec 32))) (fun _ => rfl) IF39 rfl rfl Try.underlying25 rfl (by decide) (.t rfl) (.t rfl) (Src.own (pos := 0) rfl) (fun _ => rfl) (by omega) (by omega)) ?_
            rintro v95 _ rfl
            refine ⟨.inl rfl, ?_⟩
            refine W.cast (m' := m) (l' := hownT 39 1 encU v93 _ :: hown 22 1 v52 _ _ :: hrows 3 1 encI _ _ :: hcells b9 [_, _, _] 27 :: hownT 39 1 encU v56 _ :: hownT 39 1 encU v95 _ :: hownT 28 1 encI v58 _ :: hcells b4 [_, _, _] 27 :: hownT 39 1 encU (.slice none 0 0) (([] : List (BitVec 32))) :: hownT 39 1 encU (.slice none 0 0) (([] : List (BitVec 32))) :: hownT 28 1 encI (.slice none 0 0) (([] : List Int)) :: l) rfl rfl ?_
            refine W.q rfl rfl rfl rfl (by decide) (Yd.fldB rfl Try.underlying27 rfl SZ25 rfl (.t rfl)) ?_
            refine W.s rfl rfl rfl rfl (Ef.stBo (pos := 3) (pos2 := 5) (cs' := [_, _, _]) rfl rfl rfl (.t rfl) (.t rfl) SZ25 (Nat.le_of_ble_eq_true rfl) rfl) ?_
            rintro _ _ ⟨rfl, rfl⟩
            refine ⟨.inl rfl, ?_⟩
            refine W.cast (m' := m) (l' := hownT 39 1 encU v93 _ :: hown 22 1 v52 _ _ :: hrows 3 1 encI _ _ :: hcells b9 [_, _, _] 27 :: hownT 39 1 encU v56 _ :: hownT 39 1 encU v95 _ :: hownT 28 1 encI v58 _ :: hcells b4 [_, _, _] 27 :: hownT 39 1 encU (.slice none 0 0) (([] : List (BitVec 32))) :: hownT 39 1 encU (.slice none 0 0) (([] : List (BitVec 32))) :: hownT 28 1 encI (.slice none 0 0) (([] : List Int)) :: l) rfl rfl ?_
            refine W.end ?_
            refine NX.sub (env' := [(8, _), (9, _), (216, _), (217, _), (218, _)]) ⟨rfl, rfl, rfl, rfl, rfl, trivial⟩ ?_
            refine NX.drop (l' := hown 22 1 v52 _ _ :: hrows 3 1 encI _ _ :: hcells b9 [_, _, _] 27 :: hownT 39 1 encU v56 _ :: hownT 39 1 encU v95 _ :: hownT 28 1 encI v58 _ :: hcells b4 [_, _, _] 27 :: hownT 39 1 encU (.slice none 0 0) (([] : List (BitVec 32))) :: hownT 39 1 encU (.slice none 0 0) (([] : List (BitVec 32))) :: hownT 28 1 encI (.slice none 0 0) (([] : List Int)) :: l) (.cons _ (.cons_cons _ (.cons_cons _ (.cons_cons _ (.cons_cons _ (.cons_cons _ (.cons_cons _ (.cons_cons _ (.cons_cons _ (.cons_cons _ (.cons_cons _ (.refl _)))))))))))) ?_
            refine NX.block ?_
            refine NX.then ?_
            refine Tr.region_f (fun _ => false) ?_
            refine W.q rfl rfl rfl rfl (by decide) (Yd.add rfl (.t rfl) .c) ?_
            refine W.q rfl rfl rfl rfl (by decide) (Yd.mv rfl (.t rfl)) ?_
            refine W.end ?_
            refine NX.sub (env' := [(8, _), (9, _), (216, _), (217, _), (218, _)]) ⟨rfl, rfl, rfl, rfl, rfl, trivial⟩ ?_
            refine NX.sub (env' := [(8, _), (9, _), (216, _), (217, _), (218, _)]) ⟨rfl, rfl, rfl, rfl, rfl, trivial⟩ ?_
            have hw := w64_id (n := t_78 + 1) (by omega) (by omega)
            exact NX.again n81 (t_78 + 1, (l65 ++ ([set_90] : List (BitVec 32)))) (Nat.lt_succ_self _) ⟨_, (by rw [hw] <;> rfl), rfl, (fr_dec hnt_78), (by omega), ((hnx80 _).symm.trans hr)⟩
          obtain ⟨hle97, hr⟩ := guard_some hr; replace hle97 := of_decide_eq_true hle97
          refine Tr.block ?_
          refine Tr.sub (env' := [(8, _), (9, _), (22, _), (216, _), (217, _), (218, _), (222, _), (223, _), (224, _)]) ⟨rfl, rfl, rfl, rfl, rfl, rfl, rfl, rfl, rfl, trivial⟩ ?_
          refine Tr.loop (S := fun n (z : Int × (BitVec 32)) env x => match z with | (t_98, set_88) => env = [(8, bp b4 0), (9, bp b9 0), (22, .int .u32 (set_88.toNat : Int)), (216, v52), (217, .int .i64 ((l51.length : Int))), (218, .int .i64 t_78), (222, u84), (223, .int .i64 ((y82.length : Int))), (224, .int .i64 t_98)] ∧ x = ⟨m, hown 22 1 v52 l51.length us53 :: hrows 3 1 encI us53 l51 :: hcells b9 [v58, v66, v56] 27 :: hownT 39 1 encU v56 l55 :: hownT 39 1 encU v66 l65 :: hownT 28 1 encI v58 l57 :: hcells b4 [(.slice none 0 0), (.slice none 0 0), (.slice none 0 0)] 27 :: hownT 39 1 encU (.slice none 0 0) (([] : List (BitVec 32))) :: hownT 39 1 encU (.slice none 0 0) (([] : List (BitVec 32))) :: hownT 28 1 encI (.slice none 0 0) (([] : List Int)) :: l⟩ ∧ n = ((y82.length : Int) - t_98).toNat ∧ 0 ≤ t_98 ∧ forK (σ := (BitVec 32)) (fun i s nx_ => syllogistref_Wall_b99 y82 i s nx_) (fun s => syllogistref_Wall_k91 l65 nx80 s) n t_98 set_88 = some r) _ ((0 : Int), 0#32) ⟨rfl, rfl, rfl, (by omega), hr⟩ ?_
          rintro n101 ⟨t_98, set_88⟩ env x ⟨rfl, rfl, hnt_98, h0t_98, hr⟩
          cases n101 with
          | zero =>
            simp only [forK] at hr
            refine Tr.seq ?_
            refine Tr.region_f (fun _ => false) ?_
            refine W.q rfl rfl rfl rfl (by decide) (Yd.lss rfl (.t rfl) (.t rfl)) ?_
            refine W.end ?_
            refine NX.sub (env' := [(8, _), (9, _), (22, _), (216, _), (217, _), (218, _), (222, _), (223, _), (224, _), (225, _)]) ⟨rfl, rfl, rfl, rfl, rfl, rfl, rfl, rfl, rfl, rfl, trivial⟩ ?_
            refine NX.then ?_
            refine Tr.seq ?_
            refine Tr.cond (.t rfl) (fun hb => ?_) (fun hb => ?_)
            · exact absurd (hb.symm.trans (fr_end hnt_98)) (by decide)
            ·
              refine Tr.exit' (EX.then (EX.then (EX.block ?_)))
              refine NX.sub (env' := [(8, _), (9, _), (216, _), (217, _), (218, _), (22, _)]) ⟨rfl, rfl, rfl, rfl, rfl, rfl, trivial⟩ ?_
              exact hk92 _ _ ⟨_, rfl, rfl, hr⟩
          | succ n101 =>
            obtain ⟨nx100, hnx100, hr⟩ := forK_succ hr
            try dsimp only at hr
            unfold syllogistref_Wall_b99 at hr
            try dsimp only at hr
            have hltt_98 := fr_bnd hnt_98
            refine Tr.seq ?_
            refine Tr.region_f (fun _ => false) ?_
            refine W.q rfl rfl rfl rfl (by decide) (Yd.lss rfl (.t rfl) (.t rfl)) ?_
            refine W.end ?_
            refine NX.sub (env' := [(8, _), (9, _), (22, _), (216, _), (217, _), (218, _), (222, _), (223, _), (224, _), (225, _)]) ⟨rfl, rfl, rfl, rfl, rfl, rfl, rfl, rfl, rfl, rfl, trivial⟩ ?_
            refine NX.then ?_
            refine Tr.seq ?_
            refine Tr.cond (.t rfl) (fun hb => ?_) (fun hb => ?_)
            rotate_left
            · exact absurd (hb.symm.trans (fr_go hnt_98)) (by decide)
            ·
              refine Tr.skip' ?_
              refine NX.then ?_
              refine Tr.seq ?_
              refine Tr.block ?_
              refine Tr.seq ?_
              obtain ⟨y102, hy103, hr⟩ := bind_some hr
              refine Tr.region_f (fun _ => false) ?_
              refine W.q rfl rfl rfl rfl (by decide) (Yd.idxM (pos := 1) rfl hu85 hy83 hy103 rfl Try.underlying22 SZ3 (.t rfl) (.t rfl)) ?_
              refine W.q rfl rfl rfl rfl (by decide) (Yd.ldM (enc := encI) (n := 1) (pos := 1) (fun _ => rfl) rfl hu85 hy83 hy103 rfl rfl ON3 (.t rfl)) ?_
              refine W.q rfl rfl rfl rfl (by decide) (Yd.as rfl (.t rfl)) ?_
              refine W.end ?_
              refine NX.sub (env' := [(8, _), (9, _), (22, _), (216, _), (217, _), (218, _), (222, _), (223, _), (224, _), (24, _)]) ⟨rfl, rfl, rfl, rfl, rfl, rfl, rfl, rfl, rfl, rfl, trivial⟩ ?_
              refine NX.then ?_
              refine Tr.region_f (fun _ => false) ?_
              refine W.q rfl rfl rfl rfl (by decide) (Yd.mv rfl (.t rfl)) ?_
              refine W.q rfl rfl rfl rfl (by decide) (Yd.mv rfl (.t rfl)) ?_
              refine W.q rfl rfl rfl rfl (by decide) (Yd.cvQ rfl US3 Try.underlying46 (.t rfl)) ?_
              refine W.q rfl rfl rfl rfl (by decide) (Yd.shlU (a := 1#32) rfl .c (.t rfl) (Int.natCast_nonneg _)) ?_
              refine W.q rfl rfl rfl rfl (by decide) (Yd.addU (a := set_88) (b := (1#32 <<< ((BitVec.ofInt 64 y102)).toNat)) rfl (.t rfl) (.t rfl)) ?_
              refine W.q rfl rfl rfl rfl (by decide) (Yd.as rfl (.t rfl)) ?_
              refine W.end ?_
              refine NX.sub (env' := [(8, _), (9, _), (22, _), (216, _), (217, _), (218, _), (222, _), (223, _), (224, _)]) ⟨rfl, rfl, rfl, rfl, rfl, rfl, rfl, rfl, rfl, trivial⟩ ?_
              refine NX.block ?_
              refine NX.then ?_
              refine Tr.region_f (fun _ => false) ?_
              refine W.q rfl rfl rfl rfl (by decide) (Yd.add rfl (.t rfl) .c) ?_
              refine W.q rfl rfl rfl rfl (by decide) (Yd.mv rfl (.t rfl)) ?_
              refine W.end ?_
              refine NX.sub (env' := [(8, _), (9, _), (22, _), (216, _), (217, _), (218, _), (222, _), (223, _), (224, _)]) ⟨rfl, rfl, rfl, rfl, rfl, rfl, rfl, rfl, rfl, trivial⟩ ?_
              refine NX.sub (env' := [(8, _), (9, _), (22, _), (216, _), (217, _), (218, _), (222, _), (223, _), (224, _)]) ⟨rfl, rfl, rfl, rfl, rfl, rfl, rfl, rfl, rfl, trivial⟩ ?_
              have hw := w64_id (n := t_98 + 1) (by omega) (by omega)
              exact NX.again n101 (t_98 + 1, (set_88 + (1#32 <<< ((BitVec.ofInt 64 y102)).toNat))) (Nat.lt_succ_self _) ⟨(by rw [hw] <;> rfl), rfl, (fr_dec hnt_98), (by omega), ((hnx100 _).symm.trans hr)⟩
    have hlen104 := (hscript_3).2.1
    refine Tr.block ?_
    refine Tr.sub (env' := [(0, _), (1, _), (2, _), (8, _), (9, _), (10, _), (11, _), (44, _), (45, _), (46, _)]) ⟨rfl, rfl, rfl, rfl, rfl, rfl, rfl, rfl, rfl, rfl, trivial⟩ ?_
    refine Tr.loop (S := fun n (z : Int × (List (BitVec 32)) × (List (List Int)) × (List (BitVec 32)) × (List Int)) env x => match z with | (t_105, l39, l41, l45, l47) => ∃ v40 : Value, ∃ v42 : Value, ∃ us43 : List Value, ∃ v46 : Value, ∃ v48 : Value, us43.length = l41.length ∧ env = [(0, .int .i64 who_0), (1, ufirm_1), (2, uclass_2), (8, bp b4 0), (9, bp b9 0), (10, v42), (11, v40), (44, uscript_3), (45, .int .i64 ((script_3.length : Int))), (46, .int .i64 t_105)] ∧ x = ⟨m, hownT 39 1 encU v40 l39 :: hown 22 1 v42 l41.length us43 :: hrows 3 1 encI us43 l41 :: hcells b9 [v48, (.slice none 0 0), v46] 27 :: hownT 39 1 encU v46 l45 :: hownT 39 1 encU (.slice none 0 0) (([] : List (BitVec 32))) :: hownT 28 1 encI v48 l47 :: hcells b4 [(.slice none 0 0), (.slice none 0 0), (.slice none 0 0)] 27 :: hownT 39 1 encU (.slice none 0 0) (([] : List (BitVec 32))) :: hownT 39 1 encU (.slice none 0 0) (([] : List (BitVec 32))) :: hownT 28 1 encI (.slice none 0 0) (([] : List Int)) :: l⟩ ∧ n = ((script_3.length : Int) - t_105).toNat ∧ 0 ≤ t_105 ∧ forK (σ := (List (BitVec 32)) × (List (List Int)) × (List (BitVec 32)) × (List Int)) (fun i s nx_ => syllogistref_Wall_b106 who_0 firm_1 class_2 script_3 i s.1 s.2.1 s.2.2.1 s.2.2.2 nx_) (fun s => syllogistref_Wall_k59 s.2.1 s.2.2.1 s.2.2.2) n t_105 (l39, l41, l45, l47) = some r) _ ((0 : Int), (List.replicate who_0.toNat (0#32)), (List.replicate who_0.toNat ([] : List Int)), l23, ([] : List Int)) ⟨_, _, _, _, _, (lenRep : (List.replicate who_0.toNat (Value.slice none 0 0)).length = (List.replicate who_0.toNat ([] : List Int)).length), rfl, rfl, rfl, (by omega), hr⟩ ?_
    rintro n108 ⟨t_105, l39, l41, l45, l47⟩ env x ⟨v40, v42, us43, v46, v48, hw44, rfl, rfl, hnt_105, h0t_105, hr⟩
    cases n108 with
    | zero =>
      simp only [forK] at hr
      refine Tr.seq ?_
      refine Tr.region_f (fun _ => false) ?_
      refine W.q rfl rfl rfl rfl (by decide) (Yd.lss rfl (.t rfl) (.t rfl)) ?_
      refine W.end ?_
      refine NX.sub (env' := [(0, _), (1, _), (2, _), (8, _), (9, _), (10, _), (11, _), (44, _), (45, _), (46, _), (47, _)]) ⟨rfl, rfl, rfl, rfl, rfl, rfl, rfl, rfl, rfl, rfl, rfl, trivial⟩ ?_
      refine NX.then ?_
      refine Tr.seq ?_
      refine Tr.cond (.t rfl) (fun hb => ?_) (fun hb => ?_)
      · exact absurd (hb.symm.trans (fr_end hnt_105)) (by decide)
      ·
        refine Tr.exit' (EX.then (EX.then (EX.block ?_)))
        refine NX.sub (env' := [(8, _), (9, _), (10, _)]) ⟨rfl, rfl, rfl, trivial⟩ ?_
        refine NX.drop (l' := hown 22 1 v42 _ _ :: hrows 3 1 encI _ _ :: hcells b9 [_, _, _] 27 :: hownT 39 1 encU v46 _ :: hownT 39 1 encU (.slice none 0 0) (([] : List (BitVec 32))) :: hownT 28 1 encI v48 _ :: hcells b4 [_, _, _] 27 :: hownT 39 1 encU (.slice none 0 0) (([] : List (BitVec 32))) :: hownT 39 1 encU (.slice none 0 0) (([] : List (BitVec 32))) :: hownT 28 1 encI (.slice none 0 0) (([] : List Int)) :: l) (.cons _ (.cons_cons _ (.cons_cons _ (.cons_cons _ (.cons_cons _ (.cons_cons _ (.cons_cons _ (.cons_cons _ (.cons_cons _ (.cons_cons _ (.cons_cons _ (.refl _)))))))))))) ?_
        exact hk60 _ _ ⟨_, _, _, _, _, _, _, hw44, rfl, rfl, hr⟩
    | succ n108 =>
      obtain ⟨nx107, hnx107, hr⟩ := forK_succ hr
      try dsimp only at hr
      unfold syllogistref_Wall_b106 at hr
      try dsimp only at hr
      have hltt_105 := fr_bnd hnt_105
      refine Tr.seq ?_
      refine Tr.region_f (fun _ => false) ?_
      refine W.q rfl rfl rfl rfl (by decide) (Yd.lss rfl (.t rfl) (.t rfl)) ?_
      refine W.end ?_
      refine NX.sub (env' := [(0, _), (1, _), (2, _), (8, _), (9, _), (10, _), (11, _), (44, _), (45, _), (46, _), (47, _)]) ⟨rfl, rfl, rfl, rfl, rfl, rfl, rfl, rfl, rfl, rfl, rfl, trivial⟩ ?_
      refine NX.then ?_
      refine Tr.seq ?_
      refine Tr.cond (.t rfl) (fun hb => ?_) (fun hb => ?_)
      rotate_left
      · exact absurd (hb.symm.trans (fr_go hnt_105)) (by decide)
      ·
        refine Tr.skip' ?_
        refine NX.then ?_
        refine Tr.seq ?_
        refine Tr.block ?_
        refine Tr.seq ?_
        obtain ⟨y109, hy110, hr⟩ := bind_some hr
        refine Tr.region_f (fun i => Nat.beq i 2 || Nat.beq i 3) ?_
        refine W.q rfl rfl rfl rfl (by decide) (Yd.idxR hscript_3 hy110 rfl Try.underlying23 SZ43 (.t rfl) (.t rfl)) ?_
        refine W.q rfl rfl rfl rfl (by decide) (Yd.ldFs (us := [_, _, _, _, _, _]) hscript_3 (.refl _) hy110 rfl rfl ON43 US43 SZ43 (.t rfl)) ?_
        refine W.e rfl rfl rfl rfl (by decide) (Ef.al rfl ZR43 rfl) ?_
        rintro _ _ ⟨b111, rfl, rfl⟩
        refine ⟨.inl rfl, ?_⟩
        refine W.cast (m' := m) (l' := hcells b111 [_, _, _, _, _, _] 43 :: hownT 39 1 encU v40 _ :: hown 22 1 v42 _ _ :: hrows 3 1 encI _ _ :: hcells b9 [_, _, _] 27 :: hownT 39 1 encU v46 _ :: hownT 39 1 encU (.slice none 0 0) (([] : List (BitVec 32))) :: hownT 28 1 encI v48 _ :: hcells b4 [_, _, _] 27 :: hownT 39 1 encU (.slice none 0 0) (([] : List (BitVec 32))) :: hownT 39 1 encU (.slice none 0 0) (([] : List (BitVec 32))) :: hownT 28 1 encI (.slice none 0 0) (([] : List Int)) :: l) rfl rfl ?_
        refine W.s rfl rfl rfl rfl (Ef.stB (pos := 0) (us := [_, _, _, _, _, _]) (cs' := [_, _, _, _, _, _]) rfl rfl (.t rfl) (.t rfl) SZ43 rfl rfl rfl (Nat.le_of_ble_eq_true rfl) rfl) ?_
        rintro _ _ ⟨rfl, rfl⟩
        refine ⟨.inl rfl, ?_⟩
        refine W.cast (m' := m) (l' := hcells b111 [_, _, _, _, _, _] 43 :: hownT 39 1 encU v40 _ :: hown 22 1 v42 _ _ :: hrows 3 1 encI _ _ :: hcells b9 [_, _, _] 27 :: hownT 39 1 encU v46 _ :: hownT 39 1 encU (.slice none 0 0) (([] : List (BitVec 32))) :: hownT 28 1 encI v48 _ :: hcells b4 [_, _, _] 27 :: hownT 39 1 encU (.slice none 0 0) (([] : List (BitVec 32))) :: hownT 39 1 encU (.slice none 0 0) (([] : List (BitVec 32))) :: hownT 28 1 encI (.slice none 0 0) (([] : List Int)) :: l) rfl rfl ?_
        refine W.end ?_
        refine NX.sub (env' := [(0, _), (1, _), (2, _), (8, _), (9, _), (10, _), (11, _), (44, _), (45, _), (46, _), (14, _)]) ⟨rfl, rfl, rfl, rfl, rfl, rfl, rfl, rfl, rfl, rfl, rfl, trivial⟩ ?_
        refine NX.then ?_
        refine Tr.seq ?_
        refine Tr.region_f (fun _ => false) ?_
        refine W.q rfl rfl rfl rfl (by decide) (Yd.as rfl .c) ?_
        refine W.end ?_
        refine NX.sub (env' := [(0, _), (1, _), (2, _), (8, _), (9, _), (10, _), (11, _), (44, _), (45, _), (46, _), (14, _), (15, _)]) ⟨rfl, rfl, rfl, rfl, rfl, rfl, rfl, rfl, rfl, rfl, rfl, rfl, trivial⟩ ?_
        refine NX.then ?_
        refine Tr.seq ?_
        refine Tr.seq ?_
        refine Tr.region_f (fun _ => false) ?_
        refine W.q rfl rfl rfl rfl (by decide) (Yd.fldB rfl Try.underlying43 rfl SZ3 rfl (.t rfl)) ?_
        refine W.q rfl rfl rfl rfl (by decide) (Yd.ldB (pos := 0) rfl rfl rfl ON3 (.t rfl)) ?_
        refine W.q rfl rfl rfl rfl (by decide) (Yd.neq rfl (.t rfl) .c) ?_
        refine W.q rfl rfl rfl rfl (by decide) (Yd.mv rfl (.t rfl)) ?_
        refine W.g rfl rfl rfl rfl rfl (.t rfl _) rfl (by decide) (fun hG => Yd.fldB rfl Try.underlying43 rfl SZ3 rfl (.t rfl)) ?_
        refine W.g rfl rfl rfl rfl rfl (.t rfl _) rfl (by decide) (fun hG => Yd.ldB (pos := 0) rfl rfl rfl ON3 (.g rfl hG)) ?_
        refine W.g rfl rfl rfl rfl rfl (.t rfl _) rfl (by decide) (fun hG => Yd.neq rfl (.g rfl hG) .c) ?_
        refine W.q rfl rfl rfl rfl (by decide) (Yd.and rfl (.t rfl) .c rfl rfl) ?_
        refine W.end ?_
        refine NX.sub (env' := [(0, _), (1, _), (2, _), (8, _), (9, _), (10, _), (11, _), (44, _), (45, _), (46, _), (14, _), (15, _), (57, _)]) ⟨rfl, rfl, rfl, rfl, rfl, rfl, rfl, rfl, rfl, rfl, rfl, rfl, rfl, trivial⟩ ?_
        refine NX.then ?_
        refine Tr.join (S := fun env x => ∃ e_113 : Int, ∃ l114 : List (BitVec 32), ∃ l116 : List (List Int), ∃ l120 : List (BitVec 32), ∃ v115 : Value, ∃ v117 : Value, ∃ us118 : List Value, ∃ v121 : Value, us118.length = l116.length ∧ env = [(0, .int .i64 who_0), (1, ufirm_1), (2, uclass_2), (8, bp b4 0), (9, bp b9 0), (10, v117), (11, v115), (44, uscript_3), (45, .int .i64 ((script_3.length : Int))), (46, .int .i64 t_105), (15, .int .i64 e_113)] ∧ x = ⟨m, hownT 39 1 encU v115 l114 :: hown 22 1 v117 l116.length us118 :: hrows 3 1 encI us118 l116 :: hcells b9 [v48, (.slice none 0 0), v121] 27 :: hownT 39 1 encU v121 l120 :: hownT 39 1 encU (.slice none 0 0) (([] : List (BitVec 32))) :: hownT 28 1 encI v48 l47 :: hcells b4 [(.slice none 0 0), (.slice none 0 0), (.slice none 0 0)] 27 :: hownT 39 1 encU (.slice none 0 0) (([] : List (BitVec 32))) :: hownT 39 1 encU (.slice none 0 0) (([] : List (BitVec 32))) :: hownT 28 1 encI (.slice none 0 0) (([] : List Int)) :: l⟩ ∧ syllogistref_Wall_k122 l47 nx107 e_113 l114 l116 l120 = some r) ?_ (fun hk123 => ?_)
        · rintro _ _ ⟨e_113, l114, l116, l120, v115, v117, us118, v121, hw119, rfl, rfl, hr⟩
          unfold syllogistref_Wall_k122 at hr
          try dsimp only at hr
          refine NX.then ?_
          obtain ⟨hq127, hr⟩ := guard_some hr; replace hq127 := of_decide_eq_true hq127
          refine Tr.region_f (fun i => Nat.beq i 3 || Nat.beq i 4 || Nat.beq i 6) ?_
          refine W.q rfl rfl rfl rfl (by decide) (Yd.fldB rfl Try.underlying27 rfl SZ24 rfl (.t rfl)) ?_
          refine W.q rfl rfl rfl rfl (by decide) (Yd.ldB (pos := 3) rfl rfl rfl ON24 (.t rfl)) ?_
          refine W.q rfl rfl rfl rfl (by decide) (Yd.mv rfl (.t rfl)) ?_
          refine W.e rfl rfl rfl rfl (by decide) (Ef.bsT (enc := encI) (vs := [_]) (ys := [e_113]) (fun _ => rfl) IF28 rfl Try.underlying24 (by decide) rfl (.cons (.t rfl) .nil) rfl rfl (by decide)) ?_
          rintro v124 _ rfl
          refine ⟨.inl rfl, ?_⟩
          refine W.cast (m' := m) (l' := hownT 28 1 encI v124 _ :: hownT 39 1 encU v115 _ :: hown 22 1 v117 _ _ :: hrows 3 1 encI _ _ :: hcells b9 [_, _, _] 27 :: hownT 39 1 encU v121 _ :: hownT 39 1 encU (.slice none 0 0) (([] : List (BitVec 32))) :: hownT 28 1 encI v48 _ :: hcells b4 [_, _, _] 27 :: hownT 39 1 encU (.slice none 0 0) (([] : List (BitVec 32))) :: hownT 39 1 encU (.slice none 0 0) (([] : List (BitVec 32))) :: hownT 28 1 encI (.slice none 0 0) (([] : List Int)) :: l) rfl rfl ?_
          refine W.e rfl rfl rfl rfl (by decide) (Ef.apI (pos := 7) (enc := encI) (xs := l47) (ys := ([e_113] : List Int)) (fun _ => rfl) IF28 rfl rfl Try.underlying24 rfl (by decide) (.t rfl) (.t rfl) (Src.own (pos := 0) rfl) (fun _ => rfl) (by omega) (by omega)) ?_
          rintro v126 _ rfl
          refine ⟨.inl rfl, ?_⟩
          refine W.cast (m' := m) (l' := hownT 28 1 encI v124 _ :: hownT 39 1 encU v115 _ :: hown 22 1 v117 _ _ :: hrows 3 1 encI _ _ :: hcells b9 [_, _, _] 27 :: hownT 39 1 encU v121 _ :: hownT 39 1 encU (.slice none 0 0) (([] : List (BitVec 32))) :: hownT 28 1 encI v126 _ :: hcells b4 [_, _, _] 27 :: hownT 39 1 encU (.slice none 0 0) (([] : List (BitVec 32))) :: hownT 39 1 encU (.slice none 0 0) (([] : List (BitVec 32))) :: hownT 28 1 encI (.slice none 0 0) (([] : List Int)) :: l) rfl rfl ?_
          refine W.q rfl rfl rfl rfl (by decide) (Yd.fldB rfl Try.underlying27 rfl SZ24 rfl (.t rfl)) ?_
          refine W.s rfl rfl rfl rfl (Ef.stBo (pos := 4) (pos2 := 7) (cs' := [_, _, _]) rfl rfl rfl (.t rfl) (.t rfl) SZ24 (Nat.le_of_ble_eq_true rfl) rfl) ?_
          rintro _ _ ⟨rfl, rfl⟩
          refine ⟨.inl rfl, ?_⟩
          refine W.cast (m' := m) (l' := hownT 28 1 encI v124 _ :: hownT 39 1 encU v115 _ :: hown 22 1 v117 _ _ :: hrows 3 1 encI _ _ :: hcells b9 [_, _, _] 27 :: hownT 39 1 encU v121 _ :: hownT 39 1 encU (.slice none 0 0) (([] : List (BitVec 32))) :: hownT 28 1 encI v126 _ :: hcells b4 [_, _, _] 27 :: hownT 39 1 encU (.slice none 0 0) (([] : List (BitVec 32))) :: hownT 39 1 encU (.slice none 0 0) (([] : List (BitVec 32))) :: hownT 28 1 encI (.slice none 0 0) (([] : List Int)) :: l) rfl rfl ?_
          refine W.end ?_
          refine NX.sub (env' := [(0, _), (1, _), (2, _), (8, _), (9, _), (10, _), (11, _), (44, _), (45, _), (46, _)]) ⟨rfl, rfl, rfl, rfl, rfl, rfl, rfl, rfl, rfl, rfl, trivial⟩ ?_
          refine NX.drop (l' := hownT 39 1 encU v115 _ :: hown 22 1 v117 _ _ :: hrows 3 1 encI _ _ :: hcells b9 [_, _, _] 27 :: hownT 39 1 encU v121 _ :: hownT 39 1 encU (.slice none 0 0) (([] : List (BitVec 32))) :: hownT 28 1 encI v126 _ :: hcells b4 [_, _, _] 27 :: hownT 39 1 encU (.slice none 0 0) (([] : List (BitVec 32))) :: hownT 39 1 encU (.slice none 0 0) (([] : List (BitVec 32))) :: hownT 28 1 encI (.slice none 0 0) (([] : List Int)) :: l) (.cons _ (.cons_cons _ (.cons_cons _ (.cons_cons _ (.cons_cons _ (.cons_cons _ (.cons_cons _ (.cons_cons _ (.cons_cons _ (.cons_cons _ (.cons_cons _ (.cons_cons _ (.refl _))))))))))))) ?_
          refine NX.block ?_
          refine NX.then ?_
          refine Tr.region_f (fun _ => false) ?_
          refine W.q rfl rfl rfl rfl (by decide) (Yd.add rfl (.t rfl) .c) ?_
          refine W.q rfl rfl rfl rfl (by decide) (Yd.mv rfl (.t rfl)) ?_
          refine W.end ?_
          refine NX.sub (env' := [(0, _), (1, _), (2, _), (8, _), (9, _), (10, _), (11, _), (44, _), (45, _), (46, _)]) ⟨rfl, rfl, rfl, rfl, rfl, rfl, rfl, rfl, rfl, rfl, trivial⟩ ?_
          refine NX.sub (env' := [(0, _), (1, _), (2, _), (8, _), (9, _), (10, _), (11, _), (44, _), (45, _), (46, _)]) ⟨rfl, rfl, rfl, rfl, rfl, rfl, rfl, rfl, rfl, rfl, trivial⟩ ?_
          have hw := w64_id (n := t_105 + 1) (by omega) (by omega)
          exact NX.again n108 (t_105 + 1, l114, l116, l120, (l47 ++ ([e_113] : List Int))) (Nat.lt_succ_self _) ⟨_, _, _, _, _, hw119, (by rw [hw] <;> rfl), rfl, (fr_dec hnt_105), (by omega), ((hnx107 _).symm.trans hr)⟩
        refine Tr.cond (.t rfl) (fun hb => ?_) (fun hb => ?_)
        · have hr := cond_t hb hr
          refine Tr.region_f (fun _ => false) ?_
          refine W.q rfl rfl rfl rfl (by decide) (Yd.as rfl .c) ?_
          refine W.end ?_
          refine NX.sub (env' := [(0, _), (1, _), (2, _), (8, _), (9, _), (10, _), (11, _), (44, _), (45, _), (46, _), (15, _)]) ⟨rfl, rfl, rfl, rfl, rfl, rfl, rfl, rfl, rfl, rfl, rfl, trivial⟩ ?_
          refine NX.drop (l' := hownT 39 1 encU v40 _ :: hown 22 1 v42 _ _ :: hrows 3 1 encI _ _ :: hcells b9 [_, _, _] 27 :: hownT 39 1 encU v46 _ :: hownT 39 1 encU (.slice none 0 0) (([] : List (BitVec 32))) :: hownT 28 1 encI v48 _ :: hcells b4 [_, _, _] 27 :: hownT 39 1 encU (.slice none 0 0) (([] : List (BitVec 32))) :: hownT 39 1 encU (.slice none 0 0) (([] : List (BitVec 32))) :: hownT 28 1 encI (.slice none 0 0) (([] : List Int)) :: l) (.cons _ (.cons_cons _ (.cons_cons _ (.cons_cons _ (.cons_cons _ (.cons_cons _ (.cons_cons _ (.cons_cons _ (.cons_cons _ (.cons_cons _ (.cons_cons _ (.cons_cons _ (.refl _))))))))))))) ?_
          refine NX.sub (env' := [(0, _), (1, _), (2, _), (8, _), (9, _), (10, _), (11, _), (44, _), (45, _), (46, _), (15, _)]) ⟨rfl, rfl, rfl, rfl, rfl, rfl, rfl, rfl, rfl, rfl, rfl, trivial⟩ ?_
          exact hk123 _ _ ⟨_, _, _, _, _, _, _, _, hw44, rfl, rfl, hr⟩
        · have hr := cond_f hb hr
          refine Tr.seq ?_
          refine Tr.region_f (fun _ => false) ?_
          refine W.q rfl rfl rfl rfl (by decide) (Yd.fldB rfl Try.underlying43 rfl SZ3 rfl (.t rfl)) ?_
          refine W.q rfl rfl rfl rfl (by decide) (Yd.ldB (pos := 0) rfl rfl rfl ON3 (.t rfl)) ?_
          refine W.q rfl rfl rfl rfl (by decide) (Yd.lss rfl (.t rfl) .c) ?_
          refine W.q rfl rfl rfl rfl (by decide) (Yd.mv rfl (.t rfl)) ?_
          refine W.g rfl rfl rfl rfl rfl (.t rfl _) rfl (by decide) (fun hG => Yd.fldB rfl Try.underlying43 rfl SZ3 rfl (.t rfl)) ?_
          refine W.g rfl rfl rfl rfl rfl (.t rfl _) rfl (by decide) (fun hG => Yd.ldB (pos := 0) rfl rfl rfl ON3 (.g rfl hG)) ?_
          refine W.g rfl rfl rfl rfl rfl (.t rfl _) rfl (by decide) (fun hG => Yd.mv rfl (.t rfl)) ?_
          refine W.g rfl rfl rfl rfl rfl (.t rfl _) rfl (by decide) (fun hG => Yd.geq rfl (.g rfl hG) (.g rfl hG)) ?_
          refine W.q rfl rfl rfl rfl (by decide) (Yd.or rfl (.t rfl) .c rfl rfl) ?_
          refine W.q rfl rfl rfl rfl (by decide) (Yd.mv rfl (.t rfl)) ?_
          refine W.g rfl rfl rfl rfl rfl (.t rfl _) rfl (by decide) (fun hG => Yd.fldB rfl Try.underlying43 rfl SZ3 rfl (.t rfl)) ?_
          refine W.g rfl rfl rfl rfl rfl (.t rfl _) rfl (by decide) (fun hG => Yd.ldB (pos := 0) rfl rfl rfl ON3 (.g rfl hG)) ?_
          refine W.g rfl rfl rfl rfl rfl (.t rfl _) rfl (by decide) (fun hG => Yd.lss rfl (.g rfl hG) .c) ?_
          refine W.q rfl rfl rfl rfl (by decide) (Yd.or rfl (.t rfl) .c rfl rfl) ?_
          refine W.q rfl rfl rfl rfl (by decide) (Yd.mv rfl (.t rfl)) ?_
          refine W.g rfl rfl rfl rfl rfl (.t rfl _) rfl (by decide) (fun hG => Yd.fldB rfl Try.underlying43 rfl SZ3 rfl (.t rfl)) ?_
          refine W.g rfl rfl rfl rfl rfl (.t rfl _) rfl (by decide) (fun hG => Yd.ldB (pos := 0) rfl rfl rfl ON3 (.g rfl hG)) ?_
          refine W.g rfl rfl rfl rfl rfl (.t rfl _) rfl (by decide) (fun hG => Yd.mv rfl (.t rfl)) ?_
          refine W.g rfl rfl rfl rfl rfl (.t rfl _) rfl (by decide) (fun hG => Yd.lenR hfirm_1 rfl Try.underlying22 (.g rfl hG)) ?_
          refine W.g rfl rfl rfl rfl rfl (.t rfl _) rfl (by decide) (fun hG => Yd.geq rfl (.g rfl hG) (.g rfl hG)) ?_
          refine W.q rfl rfl rfl rfl (by decide) (Yd.or rfl (.t rfl) .c rfl rfl) ?_
          refine W.end ?_
          refine NX.sub (env' := [(0, _), (1, _), (2, _), (8, _), (9, _), (10, _), (11, _), (44, _), (45, _), (46, _), (14, _), (15, _), (78, _)]) ⟨rfl, rfl, rfl, rfl, rfl, rfl, rfl, rfl, rfl, rfl, rfl, rfl, rfl, trivial⟩ ?_
          refine NX.then ?_
          refine Tr.cond (.t rfl) (fun hb => ?_) (fun hb => ?_)
          · have hr := cond_t hb hr
            refine Tr.region_f (fun _ => false) ?_
            refine W.q rfl rfl rfl rfl (by decide) (Yd.as rfl .c) ?_
            refine W.end ?_
            refine NX.sub (env' := [(0, _), (1, _), (2, _), (8, _), (9, _), (10, _), (11, _), (44, _), (45, _), (46, _), (15, _)]) ⟨rfl, rfl, rfl, rfl, rfl, rfl, rfl, rfl, rfl, rfl, rfl, trivial⟩ ?_
            refine NX.drop (l' := hownT 39 1 encU v40 _ :: hown 22 1 v42 _ _ :: hrows 3 1 encI _ _ :: hcells b9 [_, _, _] 27 :: hownT 39 1 encU v46 _ :: hownT 39 1 encU (.slice none 0 0) (([] : List (BitVec 32))) :: hownT 28 1 encI v48 _ :: hcells b4 [_, _, _] 27 :: hownT 39 1 encU (.slice none 0 0) (([] : List (BitVec 32))) :: hownT 39 1 encU (.slice none 0 0) (([] : List (BitVec 32))) :: hownT 28 1 encI (.slice none 0 0) (([] : List Int)) :: l) (.cons _ (.cons_cons _ (.cons_cons _ (.cons_cons _ (.cons_cons _ (.cons_cons _ (.cons_cons _ (.cons_cons _ (.cons_cons _ (.cons_cons _ (.cons_cons _ (.cons_cons _ (.refl _))))))))))))) ?_
            refine NX.sub (env' := [(0, _), (1, _), (2, _), (8, _), (9, _), (10, _), (11, _), (44, _), (45, _), (46, _), (15, _)]) ⟨rfl, rfl, rfl, rfl, rfl, rfl, rfl, rfl, rfl, rfl, rfl, trivial⟩ ?_
            exact hk123 _ _ ⟨_, _, _, _, _, _, _, _, hw44, rfl, rfl, hr⟩
          · have hr := cond_f hb hr
            refine Tr.seq ?_
            obtain ⟨y128, hy129, hr⟩ := bind_some hr
            refine Tr.region_f (fun _ => false) ?_
            refine W.q rfl rfl rfl rfl (by decide) (Yd.mv rfl (.t rfl)) ?_
            refine W.q rfl rfl rfl rfl (by decide) (Yd.fldB rfl Try.underlying43 rfl SZ3 rfl (.t rfl)) ?_
            refine W.q rfl rfl rfl rfl (by decide) (Yd.ldB (pos := 0) rfl rfl rfl ON3 (.t rfl)) ?_
            refine W.q rfl rfl rfl rfl (by decide) (Yd.idxR hfirm_1 hy129 rfl Try.underlying22 SZ3 (.t rfl) (.t rfl)) ?_
            refine W.q rfl rfl rfl rfl (by decide) (Yd.ldF hfirm_1 (.refl _) hy129 rfl rfl ON3 (.t rfl)) ?_
            refine W.q rfl rfl rfl rfl (by decide) (Yd.as rfl (.t rfl)) ?_
            refine W.end ?_
            refine NX.sub (env' := [(0, _), (1, _), (2, _), (8, _), (9, _), (10, _), (11, _), (44, _), (45, _), (46, _), (14, _), (15, _), (16, _)]) ⟨rfl, rfl, rfl, rfl, rfl, rfl, rfl, rfl, rfl, rfl, rfl, rfl, rfl, trivial⟩ ?_
            refine NX.then ?_
            refine Tr.seq ?_
            refine Tr.seq ?_
            obtain ⟨y130, hy131, hr⟩ := bind_some hr
            refine Tr.region_f (fun _ => false) ?_
            refine W.q rfl rfl rfl rfl (by decide) (Yd.mv rfl (.t rfl)) ?_
            refine W.q rfl rfl rfl rfl (by decide) (Yd.fldB rfl Try.underlying43 rfl SZ3 rfl (.t rfl)) ?_
            refine W.q rfl rfl rfl rfl (by decide) (Yd.ldB (pos := 0) rfl rfl rfl ON3 (.t rfl)) ?_
            refine W.q rfl rfl rfl rfl (by decide) (Yd.idxO (pos := 2) (xs := l41) rfl hy131 rfl Try.underlying45 SZ22 (.t rfl) (.t rfl)) ?_
            obtain ⟨u132, hu133⟩ := us_get hw44 hy131
            refine W.q rfl rfl rfl rfl (by decide) (Yd.ldU (pos := 2) rfl hu133 rfl ON22 (.t rfl)) ?_
            refine W.q rfl rfl rfl rfl (by decide) (Yd.lenM (pos := 3) rfl hu133 hy131 rfl Try.underlying22 (.t rfl)) ?_
            refine W.q rfl rfl rfl rfl (by decide) (Yd.mv rfl .c) ?_
            refine W.end ?_
            refine NX.sub (env' := [(0, _), (1, _), (2, _), (8, _), (9, _), (10, _), (11, _), (44, _), (45, _), (46, _), (14, _), (15, _), (16, _), (88, _), (89, _), (90, _)]) ⟨rfl, rfl, rfl, rfl, rfl, rfl, rfl, rfl, rfl, rfl, rfl, rfl, rfl, rfl, rfl, rfl, trivial⟩ ?_
            refine NX.then ?_
            refine Tr.join (S := fun env x => ∃ e_138 : Int, env = [(0, .int .i64 who_0), (1, ufirm_1), (2, uclass_2), (8, bp b4 0), (9, bp b9 0), (10, v42), (11, v40), (44, uscript_3), (45, .int .i64 ((script_3.length : Int))), (46, .int .i64 t_105), (14, bp b111 0), (15, .int .i64 e_138)] ∧ x = ⟨m, hcells b111 [.int .i64 y109.kind, .int .i64 y109.by_, .int .i64 y109.to, .int .i64 y109.label.level, .int .u32 (y109.label.parts.toNat : Int), .int .i64 y109.val] 43 :: hownT 39 1 encU v40 l39 :: hown 22 1 v42 l41.length us43 :: hrows 3 1 encI us43 l41 :: hcells b9 [v48, (.slice none 0 0), v46] 27 :: hownT 39 1 encU v46 l45 :: hownT 39 1 encU (.slice none 0 0) (([] : List (BitVec 32))) :: hownT 28 1 encI v48 l47 :: hcells b4 [(.slice none 0 0), (.slice none 0 0), (.slice none 0 0)] 27 :: hownT 39 1 encU (.slice none 0 0) (([] : List (BitVec 32))) :: hownT 39 1 encU (.slice none 0 0) (([] : List (BitVec 32))) :: hownT 28 1 encI (.slice none 0 0) (([] : List Int)) :: l⟩ ∧ syllogistref_Wall_k139 l39 l41 l45 l47 nx107 y109 e_138 = some r) ?_ (fun hk140 => ?_)
            · rintro _ _ ⟨e_138, rfl, rfl, hr⟩
              unfold syllogistref_Wall_k139 at hr
              try dsimp only at hr
              refine NX.then ?_
              refine Tr.seq ?_
              refine Tr.seq ?_
              refine Tr.region_f (fun _ => false) ?_
              refine W.q rfl rfl rfl rfl (by decide) (Yd.mv rfl (.t rfl)) ?_
              refine W.q rfl rfl rfl rfl (by decide) (Yd.eql rfl (.t rfl) .c) ?_
              refine W.q rfl rfl rfl rfl (by decide) (Yd.mv rfl (.t rfl)) ?_
              refine W.g rfl rfl rfl rfl rfl (.t rfl _) rfl (by decide) (fun hG => Yd.fldB rfl Try.underlying43 rfl SZ3 rfl (.t rfl)) ?_
              refine W.g rfl rfl rfl rfl rfl (.t rfl _) rfl (by decide) (fun hG => Yd.ldB (pos := 0) rfl rfl rfl ON3 (.g rfl hG)) ?_
              refine W.g rfl rfl rfl rfl rfl (.t rfl _) rfl (by decide) (fun hG => Yd.eql rfl (.g rfl hG) .c) ?_
              refine W.q rfl rfl rfl rfl (by decide) (Yd.and rfl (.t rfl) .c rfl rfl) ?_
              refine W.end ?_
              refine NX.sub (env' := [(0, _), (1, _), (2, _), (8, _), (9, _), (10, _), (11, _), (44, _), (45, _), (46, _), (14, _), (15, _), (146, _)]) ⟨rfl, rfl, rfl, rfl, rfl, rfl, rfl, rfl, rfl, rfl, rfl, rfl, rfl, trivial⟩ ?_
              refine NX.then ?_
              refine Tr.join (S := fun env x => ∃ l141 : List (BitVec 32), ∃ l143 : List (List Int), ∃ v142 : Value, ∃ v144 : Value, ∃ us145 : List Value, us145.length = l143.length ∧ env = [(0, .int .i64 who_0), (1, ufirm_1), (2, uclass_2), (8, bp b4 0), (9, bp b9 0), (10, v144), (11, v142), (44, uscript_3), (45, .int .i64 ((script_3.length : Int))), (46, .int .i64 t_105), (14, bp b111 0), (15, .int .i64 e_138)] ∧ x = ⟨m, hcells b111 [.int .i64 y109.kind, .int .i64 y109.by_, .int .i64 y109.to, .int .i64 y109.label.level, .int .u32 (y109.label.parts.toNat : Int), .int .i64 y109.val] 43 :: hownT 39 1 encU v142 l141 :: hown 22 1 v144 l143.length us145 :: hrows 3 1 encI us145 l143 :: hcells b9 [v48, (.slice none 0 0), v46] 27 :: hownT 39 1 encU v46 l45 :: hownT 39 1 encU (.slice none 0 0) (([] : List (BitVec 32))) :: hownT 28 1 encI v48 l47 :: hcells b4 [(.slice none 0 0), (.slice none 0 0), (.slice none 0 0)] 27 :: hownT 39 1 encU (.slice none 0 0) (([] : List (BitVec 32))) :: hownT 39 1 encU (.slice none 0 0) (([] : List (BitVec 32))) :: hownT 28 1 encI (.slice none 0 0) (([] : List Int)) :: l⟩ ∧ syllogistref_Wall_k147 l45 l47 nx107 y109 e_138 l141 l143 = some r) ?_ (fun hk148 => ?_)
              · rintro _ _ ⟨l141, l143, v142, v144, us145, hw146, rfl, rfl, hr⟩
                unfold syllogistref_Wall_k147 at hr
                try dsimp only at hr
                refine NX.then ?_
                refine Tr.seq ?_
                refine Tr.region_f (fun _ => false) ?_
                refine W.q rfl rfl rfl rfl (by decide) (Yd.mv rfl (.t rfl)) ?_
                refine W.q rfl rfl rfl rfl (by decide) (Yd.eql rfl (.t rfl) .c) ?_
                refine W.q rfl rfl rfl rfl (by decide) (Yd.mv rfl (.t rfl)) ?_
                refine W.g rfl rfl rfl rfl rfl (.t rfl _) rfl (by decide) (fun hG => Yd.fldB rfl Try.underlying43 rfl SZ3 rfl (.t rfl)) ?_
                refine W.g rfl rfl rfl rfl rfl (.t rfl _) rfl (by decide) (fun hG => Yd.ldB (pos := 0) rfl rfl rfl ON3 (.g rfl hG)) ?_
                refine W.g rfl rfl rfl rfl rfl (.t rfl _) rfl (by decide) (fun hG => Yd.eql rfl (.g rfl hG) .c) ?_
                refine W.q rfl rfl rfl rfl (by decide) (Yd.and rfl (.t rfl) .c rfl rfl) ?_
                refine W.end ?_
                refine NX.sub (env' := [(0, _), (1, _), (2, _), (8, _), (9, _), (10, _), (11, _), (44, _), (45, _), (46, _), (14, _), (15, _), (191, _)]) ⟨rfl, rfl, rfl, rfl, rfl, rfl, rfl, rfl, rfl, rfl, rfl, rfl, rfl, trivial⟩ ?_
                refine NX.then ?_
                refine Tr.cond (.t rfl) (fun hb => ?_) (fun hb => ?_)
                · have hr := cond_t hb hr
                  obtain ⟨y149, hy150, hr⟩ := bind_some hr
                  obtain ⟨y151, hy152, hr⟩ := bind_some hr
                  refine Tr.region_x (fun i => Nat.beq i 17) (fun i => Nat.beq i 17) (Ord.of [0, 1, 2, 3, 4, 5, 6, 7, 8, 9, 10, 11, 12, 13, 14, 15, 16, 17]) FM (by kernel_rfl) ?_
                  refine W.q rfl rfl rfl rfl (by decide) (Yd.fldB rfl Try.underlying27 rfl SZ25 rfl (.t rfl)) ?_
                  refine W.q rfl rfl rfl rfl (by decide) (Yd.ldB (pos := 4) rfl rfl rfl ON25 (.t rfl)) ?_
                  refine W.q rfl rfl rfl rfl (by decide) (Yd.fldB rfl Try.underlying43 rfl SZ3 rfl (.t rfl)) ?_
                  refine W.q rfl rfl rfl rfl (by decide) (Yd.ldB (pos := 0) rfl rfl rfl ON3 (.t rfl)) ?_
                  refine W.q rfl rfl rfl rfl (by decide) (Yd.fldB rfl Try.underlying27 rfl SZ25 rfl (.t rfl)) ?_
                  refine W.q rfl rfl rfl rfl (by decide) (Yd.ldB (pos := 4) rfl rfl rfl ON25 (.t rfl)) ?_
                  refine W.q rfl rfl rfl rfl (by decide) (Yd.fldB rfl Try.underlying43 rfl SZ3 rfl (.t rfl)) ?_
                  refine W.q rfl rfl rfl rfl (by decide) (Yd.ldB (pos := 0) rfl rfl rfl ON3 (.t rfl)) ?_
                  refine W.q rfl rfl rfl rfl (by decide) (Yd.idxT (pos := 5) rfl hy150 rfl Try.underlying25 SZ39 (.t rfl) (.t rfl)) ?_
                  refine W.q rfl rfl rfl rfl (by decide) (Yd.ldT (enc := encU) (n := 1) (pos := 5) (fun _ => rfl) rfl hy150 rfl rfl ON39 (.t rfl)) ?_
                  refine W.q rfl rfl rfl rfl (by decide) (Yd.mv rfl (.t rfl)) ?_
                  refine W.q rfl rfl rfl rfl (by decide) (Yd.fldB rfl Try.underlying43 rfl SZ3 rfl (.t rfl)) ?_
                  refine W.q rfl rfl rfl rfl (by decide) (Yd.ldB (pos := 0) rfl rfl rfl ON3 (.t rfl)) ?_
                  refine W.q rfl rfl rfl rfl (by decide) (Yd.idxT (pos := 1) rfl hy152 rfl Try.underlying25 SZ39 (.t rfl) (.t rfl)) ?_
                  refine W.q rfl rfl rfl rfl (by decide) (Yd.ldT (enc := encU) (n := 1) (pos := 1) (fun _ => rfl) rfl hy152 rfl rfl ON39 (.t rfl)) ?_
                  refine W.q rfl rfl rfl rfl (by decide) (Yd.orU (a := y149) (b := y151) rfl (.t rfl) (.t rfl)) ?_
                  refine W.q rfl rfl rfl rfl (by decide) (Yd.idxT (pos := 5) rfl hy150 rfl Try.underlying25 SZ39 (.t rfl) (.t rfl)) ?_
                  refine W.s rfl rfl rfl rfl (Ef.stT (enc := encU) (n := 1) (pos := 5) (y := (y149 ||| y151)) (us := [_]) (fun _ => rfl) rfl hy150 rfl (.t rfl) (.t rfl) SZ39 rfl rfl rfl (by decide)) ?_
                  rintro _ _ ⟨rfl, rfl⟩
                  refine ⟨.inl rfl, ?_⟩
                  refine W.cast (m' := m) (l' := hcells b111 [_, _, _, _, _, _] 43 :: hownT 39 1 encU v142 _ :: hown 22 1 v144 _ _ :: hrows 3 1 encI _ _ :: hcells b9 [_, _, _] 27 :: hownT 39 1 encU v46 _ :: hownT 39 1 encU (.slice none 0 0) (([] : List (BitVec 32))) :: hownT 28 1 encI v48 _ :: hcells b4 [_, _, _] 27 :: hownT 39 1 encU (.slice none 0 0) (([] : List (BitVec 32))) :: hownT 39 1 encU (.slice none 0 0) (([] : List (BitVec 32))) :: hownT 28 1 encI (.slice none 0 0) (([] : List Int)) :: l) rfl rfl ?_
                  refine W.end ?_
                  refine NX.sub (env' := [(0, _), (1, _), (2, _), (8, _), (9, _), (10, _), (11, _), (44, _), (45, _), (46, _), (15, _)]) ⟨rfl, rfl, rfl, rfl, rfl, rfl, rfl, rfl, rfl, rfl, rfl, trivial⟩ ?_
                  refine NX.drop (l' := hownT 39 1 encU v142 _ :: hown 22 1 v144 _ _ :: hrows 3 1 encI _ _ :: hcells b9 [_, _, _] 27 :: hownT 39 1 encU v46 _ :: hownT 39 1 encU (.slice none 0 0) (([] : List (BitVec 32))) :: hownT 28 1 encI v48 _ :: hcells b4 [_, _, _] 27 :: hownT 39 1 encU (.slice none 0 0) (([] : List (BitVec 32))) :: hownT 39 1 encU (.slice none 0 0) (([] : List (BitVec 32))) :: hownT 28 1 encI (.slice none 0 0) (([] : List Int)) :: l) (.cons _ (.cons_cons _ (.cons_cons _ (.cons_cons _ (.cons_cons _ (.cons_cons _ (.cons_cons _ (.cons_cons _ (.cons_cons _ (.cons_cons _ (.cons_cons _ (.cons_cons _ (.refl _))))))))))))) ?_
                  refine NX.sub (env' := [(0, _), (1, _), (2, _), (8, _), (9, _), (10, _), (11, _), (44, _), (45, _), (46, _), (15, _)]) ⟨rfl, rfl, rfl, rfl, rfl, rfl, rfl, rfl, rfl, rfl, rfl, trivial⟩ ?_
                  exact hk123 _ _ ⟨_, _, _, _, _, _, _, _, hw146, rfl, rfl, hr⟩
                · have hr := cond_f hb hr
                  refine Tr.skip' ?_
                  refine NX.sub (env' := [(0, _), (1, _), (2, _), (8, _), (9, _), (10, _), (11, _), (44, _), (45, _), (46, _), (15, _)]) ⟨rfl, rfl, rfl, rfl, rfl, rfl, rfl, rfl, rfl, rfl, rfl, trivial⟩ ?_
                  refine NX.drop (l' := hownT 39 1 encU v142 _ :: hown 22 1 v144 _ _ :: hrows 3 1 encI _ _ :: hcells b9 [_, _, _] 27 :: hownT 39 1 encU v46 _ :: hownT 39 1 encU (.slice none 0 0) (([] : List (BitVec 32))) :: hownT 28 1 encI v48 _ :: hcells b4 [_, _, _] 27 :: hownT 39 1 encU (.slice none 0 0) (([] : List (BitVec 32))) :: hownT 39 1 encU (.slice none 0 0) (([] : List (BitVec 32))) :: hownT 28 1 encI (.slice none 0 0) (([] : List Int)) :: l) (.cons _ (.cons_cons _ (.cons_cons _ (.cons_cons _ (.cons_cons _ (.cons_cons _ (.cons_cons _ (.cons_cons _ (.cons_cons _ (.cons_cons _ (.cons_cons _ (.cons_cons _ (.refl _))))))))))))) ?_
                  exact hk123 _ _ ⟨_, _, _, _, _, _, _, _, hw146, rfl, rfl, hr⟩
              refine Tr.cond (.t rfl) (fun hb => ?_) (fun hb => ?_)
              · have hr := cond_t hb hr
                refine Tr.seq ?_
                refine Tr.seq ?_
                obtain ⟨y153, hy154, hr⟩ := bind_some hr
                obtain ⟨r157, hr158, hr⟩ := bind_some hr
                refine Tr.region_x (fun _ => false) (fun _ => false) (Ord.of [0, 1, 2, 3, 4, 5, 6, 7, 8]) FM (by kernel_rfl) ?_
                refine W.q rfl rfl rfl rfl (by decide) (Yd.mv rfl (.t rfl)) ?_
                refine W.q rfl rfl rfl rfl (by decide) (Yd.fldB rfl Try.underlying43 rfl SZ3 rfl (.t rfl)) ?_
                refine W.q rfl rfl rfl rfl (by decide) (Yd.ldB (pos := 0) rfl rfl rfl ON3 (.t rfl)) ?_
                refine W.q rfl rfl rfl rfl (by decide) (Yd.idxO (pos := 2) (xs := l41) rfl hy154 rfl Try.underlying45 SZ22 (.t rfl) (.t rfl)) ?_
                obtain ⟨u155, hu156⟩ := us_get hw44 hy154
                refine W.q rfl rfl rfl rfl (by decide) (Yd.ldU (pos := 2) rfl hu156 rfl ON22 (.t rfl)) ?_
                refine W.q rfl rfl rfl rfl (by decide) (Yd.fldB rfl Try.underlying43 rfl SZ3 rfl (.t rfl)) ?_
                refine W.q rfl rfl rfl rfl (by decide) (Yd.ldB (pos := 0) rfl rfl rfl ON3 (.t rfl)) ?_
                refine W.q rfl rfl rfl rfl (by decide) (Yd.call (v := .bool r157) rfl Try.func11 rfl rfl (.cons (.t rfl) (.cons (.t rfl) .nil)) (by intro x' hx w hw; obtain ⟨m2, hm2, hL, hc2, hback⟩ := cX_lendAll (m := x'.m) (l := x'.l) hw; obtain ⟨qr0, hqr0⟩ := hx.at (p := 3) rfl; have hR1 := RS_of_row (enc := encI) (n := 1) (fun _ => rfl) (lent_at hL hqr0) hu156 hy154; exact (syllogistref_Has_ok w0 m2 [] _ _ hR1 y109.to _ hr158 w hc2).mono fun e w' ⟨he, hc'⟩ => ⟨he, hback [] w' hc'⟩)) ?_
                refine W.q rfl rfl rfl rfl (by decide) (Yd.not rfl (.t rfl)) ?_
                refine W.end ?_
                refine NX.sub (env' := [(0, _), (1, _), (2, _), (8, _), (9, _), (10, _), (11, _), (44, _), (45, _), (46, _), (14, _), (15, _), (155, _)]) ⟨rfl, rfl, rfl, rfl, rfl, rfl, rfl, rfl, rfl, rfl, rfl, rfl, rfl, trivial⟩ ?_
                refine NX.then ?_
                refine Tr.join (S := fun env x => ∃ l159 : List (List Int), ∃ v160 : Value, ∃ us161 : List Value, us161.length = l159.length ∧ env = [(0, .int .i64 who_0), (1, ufirm_1), (2, uclass_2), (8, bp b4 0), (9, bp b9 0), (10, v160), (11, v40), (44, uscript_3), (45, .int .i64 ((script_3.length : Int))), (46, .int .i64 t_105), (14, bp b111 0), (15, .int .i64 e_138)] ∧ x = ⟨m, hcells b111 [.int .i64 y109.kind, .int .i64 y109.by_, .int .i64 y109.to, .int .i64 y109.label.level, .int .u32 (y109.label.parts.toNat : Int), .int .i64 y109.val] 43 :: hownT 39 1 encU v40 l39 :: hown 22 1 v160 l159.length us161 :: hrows 3 1 encI us161 l159 :: hcells b9 [v48, (.slice none 0 0), v46] 27 :: hownT 39 1 encU v46 l45 :: hownT 39 1 encU (.slice none 0 0) (([] : List (BitVec 32))) :: hownT 28 1 encI v48 l47 :: hcells b4 [(.slice none 0 0), (.slice none 0 0), (.slice none 0 0)] 27 :: hownT 39 1 encU (.slice none 0 0) (([] : List (BitVec 32))) :: hownT 39 1 encU (.slice none 0 0) (([] : List (BitVec 32))) :: hownT 28 1 encI (.slice none 0 0) (([] : List Int)) :: l⟩ ∧ syllogistref_Wall_k163 l39 l45 l47 nx107 y109 e_138 l159 = some r) ?_ (fun hk164 => ?_)
                · rintro _ _ ⟨l159, v160, us161, hw162, rfl, rfl, hr⟩
                  unfold syllogistref_Wall_k163 at hr
                  try dsimp only at hr
                  refine NX.then ?_
                  obtain ⟨y165, hy166, hr⟩ := bind_some hr
                  obtain ⟨y167, hy168, hr⟩ := bind_some hr
                  refine Tr.region_x (fun i => Nat.beq i 16) (fun i => Nat.beq i 16) (Ord.of [0, 1, 2, 3, 4, 5, 6, 7, 8, 9, 10, 11, 12, 13, 14, 15, 16]) FM (by kernel_rfl) ?_
                  refine W.q rfl rfl rfl rfl (by decide) (Yd.mv rfl (.t rfl)) ?_
                  refine W.q rfl rfl rfl rfl (by decide) (Yd.fldB rfl Try.underlying43 rfl SZ3 rfl (.t rfl)) ?_
                  refine W.q rfl rfl rfl rfl (by decide) (Yd.ldB (pos := 0) rfl rfl rfl ON3 (.t rfl)) ?_
                  refine W.q rfl rfl rfl rfl (by decide) (Yd.mv rfl (.t rfl)) ?_
                  refine W.q rfl rfl rfl rfl (by decide) (Yd.fldB rfl Try.underlying43 rfl SZ3 rfl (.t rfl)) ?_
                  refine W.q rfl rfl rfl rfl (by decide) (Yd.ldB (pos := 0) rfl rfl rfl ON3 (.t rfl)) ?_
                  refine W.q rfl rfl rfl rfl (by decide) (Yd.idxT (pos := 1) rfl hy166 rfl Try.underlying25 SZ39 (.t rfl) (.t rfl)) ?_
                  refine W.q rfl rfl rfl rfl (by decide) (Yd.ldT (enc := encU) (n := 1) (pos := 1) (fun _ => rfl) rfl hy166 rfl rfl ON39 (.t rfl)) ?_
                  refine W.q rfl rfl rfl rfl (by decide) (Yd.fldB rfl Try.underlying27 rfl SZ25 rfl (.t rfl)) ?_
                  refine W.q rfl rfl rfl rfl (by decide) (Yd.ldB (pos := 4) rfl rfl rfl ON25 (.t rfl)) ?_
                  refine W.q rfl rfl rfl rfl (by decide) (Yd.fldB rfl Try.underlying43 rfl SZ3 rfl (.t rfl)) ?_
                  refine W.q rfl rfl rfl rfl (by decide) (Yd.ldB (pos := 0) rfl rfl rfl ON3 (.t rfl)) ?_
                  refine W.q rfl rfl rfl rfl (by decide) (Yd.idxT (pos := 5) rfl hy168 rfl Try.underlying25 SZ39 (.t rfl) (.t rfl)) ?_
                  refine W.q rfl rfl rfl rfl (by decide) (Yd.ldT (enc := encU) (n := 1) (pos := 5) (fun _ => rfl) rfl hy168 rfl rfl ON39 (.t rfl)) ?_
                  refine W.q rfl rfl rfl rfl (by decide) (Yd.orU (a := y165) (b := y167) rfl (.t rfl) (.t rfl)) ?_
                  refine W.q rfl rfl rfl rfl (by decide) (Yd.idxT (pos := 1) rfl hy166 rfl Try.underlying25 SZ39 (.t rfl) (.t rfl)) ?_
                  refine W.s rfl rfl rfl rfl (Ef.stT (enc := encU) (n := 1) (pos := 1) (y := (y165 ||| y167)) (us := [_]) (fun _ => rfl) rfl hy166 rfl (.t rfl) (.t rfl) SZ39 rfl rfl rfl (by decide)) ?_
                  rintro _ _ ⟨rfl, rfl⟩
                  refine ⟨.inl rfl, ?_⟩
                  refine W.cast (m' := m) (l' := hcells b111 [_, _, _, _, _, _] 43 :: hownT 39 1 encU v40 _ :: hown 22 1 v160 _ _ :: hrows 3 1 encI _ _ :: hcells b9 [_, _, _] 27 :: hownT 39 1 encU v46 _ :: hownT 39 1 encU (.slice none 0 0) (([] : List (BitVec 32))) :: hownT 28 1 encI v48 _ :: hcells b4 [_, _, _] 27 :: hownT 39 1 encU (.slice none 0 0) (([] : List (BitVec 32))) :: hownT 39 1 encU (.slice none 0 0) (([] : List (BitVec 32))) :: hownT 28 1 encI (.slice none 0 0) (([] : List Int)) :: l) rfl rfl ?_
                  refine W.end ?_
                  refine NX.sub (env' := [(0, _), (1, _), (2, _), (8, _), (9, _), (10, _), (11, _), (44, _), (45, _), (46, _), (14, _), (15, _)]) ⟨rfl, rfl, rfl, rfl, rfl, rfl, rfl, rfl, rfl, rfl, rfl, rfl, trivial⟩ ?_
                  refine NX.sub (env' := [(0, _), (1, _), (2, _), (8, _), (9, _), (10, _), (11, _), (44, _), (45, _), (46, _), (14, _), (15, _)]) ⟨rfl, rfl, rfl, rfl, rfl, rfl, rfl, rfl, rfl, rfl, rfl, rfl, trivial⟩ ?_
                  exact hk148 _ _ ⟨_, _, _, _, _, hw162, rfl, rfl, hr⟩
                refine Tr.cond (.t rfl) (fun hb => ?_) (fun hb => ?_)
                · have hr := cond_t hb hr
                  obtain ⟨y169, hy170, hr⟩ := bind_some hr
                  obtain ⟨hq175, hr⟩ := guard_some hr; replace hq175 := of_decide_eq_true hq175
                  refine Tr.region_xJ (fun x => Sle m x.m ∧ (∃ p : Nat, x.l[p]? = some (hcells b111 [.int .i64 y109.kind, .int .i64 y109.by_, .int .i64 y109.to, .int .i64 y109.label.level, .int .u32 (y109.label.parts.toNat : Int), .int .i64 y109.val] 43)) ∧ True) (fun _ _ hx h => by obtain ⟨hm, ⟨_, h0⟩, _⟩ := h; exact ⟨hm.trans hx.1, hx.at h0, trivial⟩) (fun i => Nat.beq i 11) (fun i => Nat.beq i 2) (fun i => Nat.beq i 10 || Nat.beq i 11 || Nat.beq i 13) (fun i => Nat.beq i 0 || Nat.beq i 1 || Nat.beq i 2 || Nat.beq i 11 || Nat.beq i 13) (Ord.of [0, 1, 2, 3, 4, 5, 6, 7, 8, 9, 10, 11, 12, 13]) FM (by kernel_rfl) ?_
                  refine W.p rfl rfl rfl rfl (by decide) (fun _ => Yd.mv rfl (.t rfl)) ?_
                  refine W.p rfl rfl rfl rfl (by decide) (fun _ => Yd.fldB rfl Try.underlying43 rfl SZ3 rfl (.t rfl)) ?_
                  refine W.pJ rfl rfl rfl rfl (by decide) (fun _ h => by obtain ⟨jhm, ⟨jp0, jhp0⟩, _⟩ := h; exact Yd.ldB (pos := jp0) jhp0 rfl rfl ON3 (.t rfl)) ⟨(.refl _), ⟨0, rfl⟩, trivial⟩ rfl ?_
                  refine W.q rfl rfl rfl rfl (by decide) (Yd.mv rfl (.t rfl)) ?_
                  refine W.q rfl rfl rfl rfl (by decide) (Yd.fldB rfl Try.underlying43 rfl SZ3 rfl (.t rfl)) ?_
                  refine W.q rfl rfl rfl rfl (by decide) (Yd.ldB (pos := 0) rfl rfl rfl ON3 (.t rfl)) ?_
                  refine W.q rfl rfl rfl rfl (by decide) (Yd.idxO (pos := 2) (xs := l41) rfl hy170 rfl Try.underlying45 SZ22 (.t rfl) (.t rfl)) ?_
                  obtain ⟨u178, hu179⟩ := us_get hw44 hy170
                  refine W.q rfl rfl rfl rfl (by decide) (Yd.ldU (pos := 2) rfl hu179 rfl ON22 (.t rfl)) ?_
                  refine W.q rfl rfl rfl rfl (by decide) (Yd.fldB rfl Try.underlying43 rfl SZ3 rfl (.t rfl)) ?_
                  refine W.q rfl rfl rfl rfl (by decide) (Yd.ldB (pos := 0) rfl rfl rfl ON3 (.t rfl)) ?_
                  refine W.e rfl rfl rfl rfl (by decide) (Ef.bsT (enc := encI) (vs := [_]) (ys := [y109.to]) (fun _ => rfl) IF3 rfl Try.underlying22 (by decide) rfl (.cons (.t rfl) .nil) rfl rfl (by decide)) ?_ (hJ := fun _ _ _ h => absurd (show false = true from h) (by decide))
                  rintro v180 _ rfl
                  refine ⟨.inr ⟨.refl _, [_], rfl⟩, ?_⟩
                  refine W.cast (m' := m) (l' := hownT 3 1 encI v180 _ :: hcells b111 [_, _, _, _, _, _] 43 :: hownT 39 1 encU v40 _ :: hown 22 1 v42 _ _ :: hrows 3 1 encI _ _ :: hcells b9 [_, _, _] 27 :: hownT 39 1 encU v46 _ :: hownT 39 1 encU (.slice none 0 0) (([] : List (BitVec 32))) :: hownT 28 1 encI v48 _ :: hcells b4 [_, _, _] 27 :: hownT 39 1 encU (.slice none 0 0) (([] : List (BitVec 32))) :: hownT 39 1 encU (.slice none 0 0) (([] : List (BitVec 32))) :: hownT 28 1 encI (.slice none 0 0) (([] : List Int)) :: l) rfl rfl ?_
                  refine W.e rfl rfl rfl rfl (by decide) (Ef.apTake (enc := encI) (n := 1) (pos := 4) (us := us43) (xss := l41) (xs := y169) (ys := ([y109.to] : List Int)) (i := y109.by_) (fun _ => rfl) IF3 rfl hu179 hy170 rfl Try.underlying22 rfl (by decide) (.t rfl) (.t rfl) (Src.own (pos := 1) rfl) (fun _ => rfl) (by omega) (by omega)) ?_ (hJ := by rintro v182 _ rfl; exact fun _ => ⟨(.refl _), ⟨2, rfl⟩, trivial⟩)
                  rintro v182 _ rfl
                  refine ⟨.inl rfl, ?_⟩
                  refine W.cast (m' := m) (l' := hownT 3 1 encI v182 _ :: hownT 3 1 encI v180 _ :: hcells b111 [_, _, _, _, _, _] 43 :: hownT 39 1 encU v40 _ :: hown 22 1 v42 _ _ :: hrows 3 1 encI _ _ :: hcells b9 [_, _, _] 27 :: hownT 39 1 encU v46 _ :: hownT 39 1 encU (.slice none 0 0) (([] : List (BitVec 32))) :: hownT 28 1 encI v48 _ :: hcells b4 [_, _, _] 27 :: hownT 39 1 encU (.slice none 0 0) (([] : List (BitVec 32))) :: hownT 39 1 encU (.slice none 0 0) (([] : List (BitVec 32))) :: hownT 28 1 encI (.slice none 0 0) (([] : List Int)) :: l) rfl rfl ?_
                  refine W.q rfl rfl rfl rfl (by decide) (Yd.idxO (pos := 4) (xs := l41) rfl hy170 rfl Try.underlying45 SZ22 (.t rfl) (.t rfl)) ?_
                  refine W.s rfl rfl rfl rfl (Ef.stR (pos := 4) (pos2 := 0) (xss := l41) ((y169 ++ ([y109.to] : List Int))) rfl rfl hy170 hw44 rfl (.t rfl) (.t rfl) SZ22) ?_ (hJ := fun _ _ _ h => absurd (show false = true from h) (by decide))
                  rintro _ _ ⟨rfl, rfl⟩
                  refine ⟨.inl rfl, ?_⟩
                  refine W.cast (m' := m) (l' := hownT 3 1 encI v182 _ :: hownT 3 1 encI v180 _ :: hcells b111 [_, _, _, _, _, _] 43 :: hownT 39 1 encU v40 _ :: hown 22 1 v42 _ _ :: hrows 3 1 encI _ _ :: hcells b9 [_, _, _] 27 :: hownT 39 1 encU v46 _ :: hownT 39 1 encU (.slice none 0 0) (([] : List (BitVec 32))) :: hownT 28 1 encI v48 _ :: hcells b4 [_, _, _] 27 :: hownT 39 1 encU (.slice none 0 0) (([] : List (BitVec 32))) :: hownT 39 1 encU (.slice none 0 0) (([] : List (BitVec 32))) :: hownT 28 1 encI (.slice none 0 0) (([] : List Int)) :: l) rfl rfl ?_
                  refine W.end ?_
                  refine NX.imp (fun w hw => cX_putM (po := 0) (pr := 4) (i := y109.by_.toNat) rfl rfl (geti_some hy170).2.2 hw) ?_
                  refine NX.cast (m' := m) (l' := hownT 3 1 encI v180 _ :: hcells b111 [_, _, _, _, _, _] 43 :: hownT 39 1 encU v40 _ :: hown 22 1 v42 _ _ :: hrows 3 1 encI _ _ :: hcells b9 [_, _, _] 27 :: hownT 39 1 encU v46 _ :: hownT 39 1 encU (.slice none 0 0) (([] : List (BitVec 32))) :: hownT 28 1 encI v48 _ :: hcells b4 [_, _, _] 27 :: hownT 39 1 encU (.slice none 0 0) (([] : List (BitVec 32))) :: hownT 39 1 encU (.slice none 0 0) (([] : List (BitVec 32))) :: hownT 28 1 encI (.slice none 0 0) (([] : List Int)) :: l) rfl rfl ?_
                  refine NX.sub (env' := [(0, _), (1, _), (2, _), (8, _), (9, _), (10, _), (11, _), (44, _), (45, _), (46, _), (14, _), (15, _)]) ⟨rfl, rfl, rfl, rfl, rfl, rfl, rfl, rfl, rfl, rfl, rfl, rfl, trivial⟩ ?_
                  refine NX.drop (l' := hcells b111 [_, _, _, _, _, _] 43 :: hownT 39 1 encU v40 _ :: hown 22 1 v42 _ _ :: hrows 3 1 encI _ _ :: hcells b9 [_, _, _] 27 :: hownT 39 1 encU v46 _ :: hownT 39 1 encU (.slice none 0 0) (([] : List (BitVec 32))) :: hownT 28 1 encI v48 _ :: hcells b4 [_, _, _] 27 :: hownT 39 1 encU (.slice none 0 0) (([] : List (BitVec 32))) :: hownT 39 1 encU (.slice none 0 0) (([] : List (BitVec 32))) :: hownT 28 1 encI (.slice none 0 0) (([] : List Int)) :: l) (.cons _ (.cons_cons _ (.cons_cons _ (.cons_cons _ (.cons_cons _ (.cons_cons _ (.cons_cons _ (.cons_cons _ (.cons_cons _ (.cons_cons _ (.cons_cons _ (.cons_cons _ (.cons_cons _ (.refl _)))))))))))))) ?_
                  refine NX.sub (env' := [(0, _), (1, _), (2, _), (8, _), (9, _), (10, _), (11, _), (44, _), (45, _), (46, _), (14, _), (15, _)]) ⟨rfl, rfl, rfl, rfl, rfl, rfl, rfl, rfl, rfl, rfl, rfl, rfl, trivial⟩ ?_
                  exact hk164 _ _ ⟨_, _, _, (lenSet hw44), rfl, rfl, hr⟩
                · have hr := cond_f hb hr
                  refine Tr.skip' ?_
                  refine NX.sub (env' := [(0, _), (1, _), (2, _), (8, _), (9, _), (10, _), (11, _), (44, _), (45, _), (46, _), (14, _), (15, _)]) ⟨rfl, rfl, rfl, rfl, rfl, rfl, rfl, rfl, rfl, rfl, rfl, rfl, trivial⟩ ?_
                  exact hk164 _ _ ⟨_, _, _, hw44, rfl, rfl, hr⟩
              · have hr := cond_f hb hr
                refine Tr.skip' ?_
                refine NX.sub (env' := [(0, _), (1, _), (2, _), (8, _), (9, _), (10, _), (11, _), (44, _), (45, _), (46, _), (14, _), (15, _)]) ⟨rfl, rfl, rfl, rfl, rfl, rfl, rfl, rfl, rfl, rfl, rfl, rfl, trivial⟩ ?_
                exact hk148 _ _ ⟨_, _, _, _, _, hw44, rfl, rfl, hr⟩
            obtain ⟨hle184, hr⟩ := guard_some hr; replace hle184 := of_decide_eq_true hle184
            refine Tr.block ?_
            refine Tr.sub (env' := [(0, _), (1, _), (2, _), (8, _), (9, _), (10, _), (11, _), (14, _), (15, _), (16, _), (44, _), (45, _), (46, _), (88, _), (89, _), (90, _)]) ⟨rfl, rfl, rfl, rfl, rfl, rfl, rfl, rfl, rfl, rfl, rfl, rfl, rfl, rfl, rfl, rfl, trivial⟩ ?_
            refine Tr.loop (S := fun n (z : Int × Int) env x => match z with | (t_185, e_136) => env = [(0, .int .i64 who_0), (1, ufirm_1), (2, uclass_2), (8, bp b4 0), (9, bp b9 0), (10, v42), (11, v40), (14, bp b111 0), (15, .int .i64 e_136), (16, .int .i64 y128), (44, uscript_3), (45, .int .i64 ((script_3.length : Int))), (46, .int .i64 t_105), (88, u132), (89, .int .i64 ((y130.length : Int))), (90, .int .i64 t_185)] ∧ x = ⟨m, hcells b111 [.int .i64 y109.kind, .int .i64 y109.by_, .int .i64 y109.to, .int .i64 y109.label.level, .int .u32 (y109.label.parts.toNat : Int), .int .i64 y109.val] 43 :: hownT 39 1 encU v40 l39 :: hown 22 1 v42 l41.length us43 :: hrows 3 1 encI us43 l41 :: hcells b9 [v48, (.slice none 0 0), v46] 27 :: hownT 39 1 encU v46 l45 :: hownT 39 1 encU (.slice none 0 0) (([] : List (BitVec 32))) :: hownT 28 1 encI v48 l47 :: hcells b4 [(.slice none 0 0), (.slice none 0 0), (.slice none 0 0)] 27 :: hownT 39 1 encU (.slice none 0 0) (([] : List (BitVec 32))) :: hownT 39 1 encU (.slice none 0 0) (([] : List (BitVec 32))) :: hownT 28 1 encI (.slice none 0 0) (([] : List Int)) :: l⟩ ∧ n = ((y130.length : Int) - t_185).toNat ∧ 0 ≤ t_185 ∧ forK (σ := Int) (fun i s nx_ => syllogistref_Wall_b186 firm_1 class_2 y109 y128 y130 i s nx_) (fun s => syllogistref_Wall_k139 l39 l41 l45 l47 nx107 y109 s) n t_185 e_136 = some r) _ ((0 : Int), (0 : Int)) ⟨rfl, rfl, rfl, (by omega), hr⟩ ?_
            rintro n188 ⟨t_185, e_136⟩ env x ⟨rfl, rfl, hnt_185, h0t_185, hr⟩
            cases n188 with
            | zero =>
              simp only [forK] at hr
              refine Tr.seq ?_
              refine Tr.region_f (fun _ => false) ?_
              refine W.q rfl rfl rfl rfl (by decide) (Yd.lss rfl (.t rfl) (.t rfl)) ?_
              refine W.end ?_
              refine NX.sub (env' := [(0, _), (1, _), (2, _), (8, _), (9, _), (10, _), (11, _), (14, _), (15, _), (16, _), (44, _), (45, _), (46, _), (88, _), (89, _), (90, _), (91, _)]) ⟨rfl, rfl, rfl, rfl, rfl, rfl, rfl, rfl, rfl, rfl, rfl, rfl, rfl, rfl, rfl, rfl, rfl, trivial⟩ ?_
              refine NX.then ?_
              refine Tr.seq ?_
              refine Tr.cond (.t rfl) (fun hb => ?_) (fun hb => ?_)
              · exact absurd (hb.symm.trans (fr_end hnt_185)) (by decide)
              ·
                refine Tr.exit' (EX.then (EX.then (EX.block ?_)))
                refine NX.sub (env' := [(0, _), (1, _), (2, _), (8, _), (9, _), (10, _), (11, _), (44, _), (45, _), (46, _), (14, _), (15, _)]) ⟨rfl, rfl, rfl, rfl, rfl, rfl, rfl, rfl, rfl, rfl, rfl, rfl, trivial⟩ ?_
                exact hk140 _ _ ⟨_, rfl, rfl, hr⟩
            | succ n188 =>
              obtain ⟨nx187, hnx187, hr⟩ := forK_succ hr
              try dsimp only at hr
              unfold syllogistref_Wall_b186 at hr
              try dsimp only at hr
              have hltt_185 := fr_bnd hnt_185
              refine Tr.seq ?_
              refine Tr.region_f (fun _ => false) ?_
              refine W.q rfl rfl rfl rfl (by decide) (Yd.lss rfl (.t rfl) (.t rfl)) ?_
              refine W.end ?_
              refine NX.sub (env' := [(0, _), (1, _), (2, _), (8, _), (9, _), (10, _), (11, _), (14, _), (15, _), (16, _), (44, _), (45, _), (46, _), (88, _), (89, _), (90, _), (91, _)]) ⟨rfl, rfl, rfl, rfl, rfl, rfl, rfl, rfl, rfl, rfl, rfl, rfl, rfl, rfl, rfl, rfl, rfl, trivial⟩ ?_
              refine NX.then ?_
              refine Tr.seq ?_
              refine Tr.cond (.t rfl) (fun hb => ?_) (fun hb => ?_)
              rotate_left
              · exact absurd (hb.symm.trans (fr_go hnt_185)) (by decide)
              ·
                refine Tr.skip' ?_
                refine NX.then ?_
                refine Tr.seq ?_
                refine Tr.block ?_
                refine Tr.seq ?_
                obtain ⟨y189, hy190, hr⟩ := bind_some hr
                refine Tr.region_f (fun _ => false) ?_
                refine W.q rfl rfl rfl rfl (by decide) (Yd.idxM (pos := 3) rfl hu133 hy131 hy190 rfl Try.underlying22 SZ3 (.t rfl) (.t rfl)) ?_
                refine W.q rfl rfl rfl rfl (by decide) (Yd.ldM (enc := encI) (n := 1) (pos := 3) (fun _ => rfl) rfl hu133 hy131 hy190 rfl rfl ON3 (.t rfl)) ?_
                refine W.q rfl rfl rfl rfl (by decide) (Yd.as rfl (.t rfl)) ?_
                refine W.end ?_
                refine NX.sub (env' := [(0, _), (1, _), (2, _), (8, _), (9, _), (10, _), (11, _), (14, _), (15, _), (16, _), (44, _), (45, _), (46, _), (88, _), (89, _), (90, _), (18, _)]) ⟨rfl, rfl, rfl, rfl, rfl, rfl, rfl, rfl, rfl, rfl, rfl, rfl, rfl, rfl, rfl, rfl, rfl, trivial⟩ ?_
                refine NX.then ?_
                refine Tr.seq ?_
                obtain ⟨y191, hy192, hr⟩ := bind_some hr
                refine Tr.region_f (fun _ => false) ?_
                refine W.q rfl rfl rfl rfl (by decide) (Yd.mv rfl (.t rfl)) ?_
                refine W.q rfl rfl rfl rfl (by decide) (Yd.mv rfl (.t rfl)) ?_
                refine W.q rfl rfl rfl rfl (by decide) (Yd.idxR hfirm_1 hy192 rfl Try.underlying22 SZ3 (.t rfl) (.t rfl)) ?_
                refine W.q rfl rfl rfl rfl (by decide) (Yd.ldF hfirm_1 (.refl _) hy192 rfl rfl ON3 (.t rfl)) ?_
                refine W.q rfl rfl rfl rfl (by decide) (Yd.as rfl (.t rfl)) ?_
                refine W.end ?_
                refine NX.sub (env' := [(0, _), (1, _), (2, _), (8, _), (9, _), (10, _), (11, _), (14, _), (15, _), (16, _), (44, _), (45, _), (46, _), (88, _), (89, _), (90, _), (19, _)]) ⟨rfl, rfl, rfl, rfl, rfl, rfl, rfl, rfl, rfl, rfl, rfl, rfl, rfl, rfl, rfl, rfl, rfl, trivial⟩ ?_
                refine NX.then ?_
                refine Tr.seq ?_
                obtain ⟨ha193, hr⟩ := guard_some hr
                obtain ⟨ha194, hr⟩ := guard_some hr
                refine Tr.region_x (fun _ => false) (fun _ => false) (Ord.of [0, 1, 2, 3, 4, 5, 6, 7, 8, 9, 10, 11, 12, 13, 14, 15, 16, 17, 18, 19, 20, 21, 22, 23, 24, 25, 26, 27, 28, 29, 30, 31, 32, 33, 34, 35, 36, 37, 38, 39, 40]) FM (by kernel_rfl) ?_
                refine W.q rfl rfl rfl rfl (by decide) (Yd.fldB rfl Try.underlying43 rfl SZ3 rfl (.t rfl)) ?_
                refine W.q rfl rfl rfl rfl (by decide) (Yd.ldB (pos := 0) rfl rfl rfl ON3 (.t rfl)) ?_
                refine W.q rfl rfl rfl rfl (by decide) (Yd.eql rfl (.t rfl) .c) ?_
                refine W.q rfl rfl rfl rfl (by decide) (Yd.mv rfl (.t rfl)) ?_
                refine W.g rfl rfl rfl rfl rfl (.t rfl _) rfl (by decide) (fun hG => Yd.mv rfl (.t rfl)) ?_
                refine W.g rfl rfl rfl rfl rfl (.t rfl _) rfl (by decide) (fun hG => Yd.geq rfl (.g rfl hG) .c) ?_
                refine W.q rfl rfl rfl rfl (by decide) (Yd.and rfl (.t rfl) .c rfl rfl) ?_
                refine W.q rfl rfl rfl rfl (by decide) (Yd.mv rfl (.t rfl)) ?_
                refine W.g rfl rfl rfl rfl rfl (.t rfl _) rfl (by decide) (fun hG => Yd.mv rfl (.t rfl)) ?_
                refine W.g rfl rfl rfl rfl rfl (.t rfl _) rfl (by decide) (fun hG => Yd.geq rfl (.g rfl hG) .c) ?_
                refine W.q rfl rfl rfl rfl (by decide) (Yd.and rfl (.t rfl) .c rfl rfl) ?_
                refine W.q rfl rfl rfl rfl (by decide) (Yd.mv rfl (.t rfl)) ?_
                refine W.g rfl rfl rfl rfl rfl (.t rfl _) rfl (by decide) (fun hG => Yd.mv rfl (.t rfl)) ?_
                refine W.g rfl rfl rfl rfl rfl (.t rfl _) rfl (by decide) (fun hG => Yd.mv rfl (.t rfl)) ?_
                refine W.g rfl rfl rfl rfl rfl (.t rfl _) rfl (by decide) (fun hG => Yd.neq rfl (.g rfl hG) (.g rfl hG)) ?_
                refine W.q rfl rfl rfl rfl (by decide) (Yd.and rfl (.t rfl) .c rfl rfl) ?_
                refine W.q rfl rfl rfl rfl (by decide) (Yd.mv rfl (.t rfl)) ?_
                refine W.g rfl rfl rfl rfl rfl (.t rfl _) rfl (by decide) (fun hG => Yd.mv rfl (.t rfl)) ?_
                refine W.g rfl rfl rfl rfl rfl (.t rfl _) rfl (by decide) (fun hG => Yd.mv rfl (.t rfl)) ?_
                refine W.g rfl rfl rfl rfl rfl (.t rfl _) rfl (by decide) (fun hG => Yd.idxR hclass_2 (gd_get (d := (0 : Int)) ha193 hG) rfl Try.underlying22 SZ3 (.g rfl hG) (.g rfl hG)) ?_
                refine W.g rfl rfl rfl rfl rfl (.t rfl _) rfl (by decide) (fun hG => Yd.ldF hclass_2 (.refl _) (gd_get (d := (0 : Int)) ha193 hG) rfl rfl ON3 (.g rfl hG)) ?_
                refine W.g rfl rfl rfl rfl rfl (.t rfl _) rfl (by decide) (fun hG => Yd.mv rfl (.t rfl)) ?_
                refine W.g rfl rfl rfl rfl rfl (.t rfl _) rfl (by decide) (fun hG => Yd.mv rfl (.t rfl)) ?_
                refine W.g rfl rfl rfl rfl rfl (.t rfl _) rfl (by decide) (fun hG => Yd.idxR hclass_2 (gd_get (d := (0 : Int)) ha194 hG) rfl Try.underlying22 SZ3 (.g rfl hG) (.g rfl hG)) ?_
                refine W.g rfl rfl rfl rfl rfl (.t rfl _) rfl (by decide) (fun hG => Yd.ldF hclass_2 (.refl _) (gd_get (d := (0 : Int)) ha194 hG) rfl rfl ON3 (.g rfl hG)) ?_
                refine W.g rfl rfl rfl rfl rfl (.t rfl _) rfl (by decide) (fun hG => Yd.eql rfl (.g rfl hG) (.g rfl hG)) ?_
                refine W.q rfl rfl rfl rfl (by decide) (Yd.and rfl (.t rfl) .c rfl rfl) ?_
                refine W.q rfl rfl rfl rfl (by decide) (Yd.mv rfl (.t rfl)) ?_
                refine W.g rfl rfl rfl rfl rfl (.t rfl _) rfl (by decide) (fun hG => Yd.fldB rfl Try.underlying43 rfl SZ3 rfl (.t rfl)) ?_
                refine W.g rfl rfl rfl rfl rfl (.t rfl _) rfl (by decide) (fun hG => Yd.ldB (pos := 0) rfl rfl rfl ON3 (.g rfl hG)) ?_
                refine W.g rfl rfl rfl rfl rfl (.t rfl _) rfl (by decide) (fun hG => Yd.eql rfl (.g rfl hG) .c) ?_
                refine W.g rfl rfl rfl rfl rfl (.t rfl _) rfl (by decide) (fun hG => Yd.mv rfl (.g rfl hG)) ?_
                refine W.g rfl rfl rfl rfl rfl (.g rfl _) rfl (by decide) (fun hG => Yd.mv rfl (.t rfl)) ?_
                refine W.g rfl rfl rfl rfl rfl (.g rfl _) rfl (by decide) (fun hG => Yd.geq rfl (.g rfl hG) .c) ?_
                refine W.g rfl rfl rfl rfl rfl (.t rfl _) rfl (by decide) (fun hG => Yd.andG rfl (.g rfl hG) .c rfl rfl hG) ?_
                refine W.g rfl rfl rfl rfl rfl (.t rfl _) rfl (by decide) (fun hG => Yd.mv rfl (.g rfl hG)) ?_
                refine W.g rfl rfl rfl rfl rfl (.g rfl _) rfl (by decide) (fun hG => Yd.mv rfl (.t rfl)) ?_
                refine W.g rfl rfl rfl rfl rfl (.g rfl _) rfl (by decide) (fun hG => Yd.mv rfl (.t rfl)) ?_
                refine W.g rfl rfl rfl rfl rfl (.g rfl _) rfl (by decide) (fun hG => Yd.neq rfl (.g rfl hG) (.g rfl hG)) ?_
                refine W.g rfl rfl rfl rfl rfl (.t rfl _) rfl (by decide) (fun hG => Yd.andG rfl (.g rfl hG) .c rfl rfl hG) ?_
                refine W.q rfl rfl rfl rfl (by decide) (Yd.or rfl (.t rfl) .c rfl rfl) ?_
                refine W.end ?_
                refine NX.sub (env' := [(0, _), (1, _), (2, _), (8, _), (9, _), (10, _), (11, _), (14, _), (15, _), (16, _), (44, _), (45, _), (46, _), (88, _), (89, _), (90, _), (138, _)]) ⟨rfl, rfl, rfl, rfl, rfl, rfl, rfl, rfl, rfl, rfl, rfl, rfl, rfl, rfl, rfl, rfl, rfl, trivial⟩ ?_
                refine NX.then ?_
                refine Tr.cond (.t rfl) (fun hb => ?_) (fun hb => ?_)
                · have hr := cond_t hb hr
                  refine Tr.region_f (fun _ => false) ?_
                  refine W.q rfl rfl rfl rfl (by decide) (Yd.as rfl .c) ?_
                  refine W.end ?_
                  refine NX.sub (env' := [(0, _), (1, _), (2, _), (8, _), (9, _), (10, _), (11, _), (14, _), (15, _), (16, _), (44, _), (45, _), (46, _), (88, _), (89, _), (90, _)]) ⟨rfl, rfl, rfl, rfl, rfl, rfl, rfl, rfl, rfl, rfl, rfl, rfl, rfl, rfl, rfl, rfl, trivial⟩ ?_
                  refine NX.block ?_
                  refine NX.then ?_
                  refine Tr.region_f (fun _ => false) ?_
                  refine W.q rfl rfl rfl rfl (by decide) (Yd.add rfl (.t rfl) .c) ?_
                  refine W.q rfl rfl rfl rfl (by decide) (Yd.mv rfl (.t rfl)) ?_
                  refine W.end ?_
                  refine NX.sub (env' := [(0, _), (1, _), (2, _), (8, _), (9, _), (10, _), (11, _), (14, _), (15, _), (16, _), (44, _), (45, _), (46, _), (88, _), (89, _), (90, _)]) ⟨rfl, rfl, rfl, rfl, rfl, rfl, rfl, rfl, rfl, rfl, rfl, rfl, rfl, rfl, rfl, rfl, trivial⟩ ?_
                  refine NX.sub (env' := [(0, _), (1, _), (2, _), (8, _), (9, _), (10, _), (11, _), (14, _), (15, _), (16, _), (44, _), (45, _), (46, _), (88, _), (89, _), (90, _)]) ⟨rfl, rfl, rfl, rfl, rfl, rfl, rfl, rfl, rfl, rfl, rfl, rfl, rfl, rfl, rfl, rfl, trivial⟩ ?_
                  have hw := w64_id (n := t_185 + 1) (by omega) (by omega)
                  exact NX.again n188 (t_185 + 1, (7 : Int)) (Nat.lt_succ_self _) ⟨(by rw [hw] <;> rfl), rfl, (fr_dec hnt_185), (by omega), ((hnx187 _).symm.trans hr)⟩
                · have hr := cond_f hb hr
                  refine Tr.skip' ?_
                  refine NX.block ?_
                  refine NX.then ?_
                  refine Tr.region_f (fun _ => false) ?_
                  refine W.q rfl rfl rfl rfl (by decide) (Yd.add rfl (.t rfl) .c) ?_
                  refine W.q rfl rfl rfl rfl (by decide) (Yd.mv rfl (.t rfl)) ?_
                  refine W.end ?_
                  refine NX.sub (env' := [(0, _), (1, _), (2, _), (8, _), (9, _), (10, _), (11, _), (14, _), (15, _), (16, _), (44, _), (45, _), (46, _), (88, _), (89, _), (90, _)]) ⟨rfl, rfl, rfl, rfl, rfl, rfl, rfl, rfl, rfl, rfl, rfl, rfl, rfl, rfl, rfl, rfl, trivial⟩ ?_
                  refine NX.sub (env' := [(0, _), (1, _), (2, _), (8, _), (9, _), (10, _), (11, _), (14, _), (15, _), (16, _), (44, _), (45, _), (46, _), (88, _), (89, _), (90, _)]) ⟨rfl, rfl, rfl, rfl, rfl, rfl, rfl, rfl, rfl, rfl, rfl, rfl, rfl, rfl, rfl, rfl, trivial⟩ ?_
                  have hw := w64_id (n := t_185 + 1) (by omega) (by omega)
                  exact NX.again n188 (t_185 + 1, e_136) (Nat.lt_succ_self _) ⟨(by rw [hw] <;> rfl), rfl, (fr_dec hnt_185), (by omega), ((hnx187 _).symm.trans hr)⟩
  have hlen195 := (hfirm_1).2.1
  refine Tr.block ?_
  refine Tr.sub (env' := [(0, _), (1, _), (2, _), (3, _), (8, _), (9, _), (10, _), (11, _), (12, _)]) ⟨rfl, rfl, rfl, rfl, rfl, rfl, rfl, rfl, rfl, trivial⟩ ?_
  refine Tr.loop (S := fun n (z : Int × (List (BitVec 32))) env x => match z with | (i_196, l21) => ∃ v22 : Value, env = [(0, .int .i64 who_0), (1, ufirm_1), (2, uclass_2), (3, uscript_3), (8, bp b4 0), (9, bp b9 0), (10, v12), (11, v15), (12, .int .i64 i_196)] ∧ x = ⟨m, hownT 39 1 encU v15 ((List.replicate who_0.toNat (0#32))) :: hown 22 1 v12 ((List.replicate who_0.toNat ([] : List Int))).length (List.replicate who_0.toNat (Value.slice none 0 0)) :: hrows 3 1 encI ((List.replicate who_0.toNat (Value.slice none 0 0))) ((List.replicate who_0.toNat ([] : List Int))) :: hcells b9 [(.slice none 0 0), (.slice none 0 0), v22] 27 :: hownT 39 1 encU v22 l21 :: hownT 39 1 encU (.slice none 0 0) (([] : List (BitVec 32))) :: hownT 28 1 encI (.slice none 0 0) (([] : List Int)) :: hcells b4 [(.slice none 0 0), (.slice none 0 0), (.slice none 0 0)] 27 :: hownT 39 1 encU (.slice none 0 0) (([] : List (BitVec 32))) :: hownT 39 1 encU (.slice none 0 0) (([] : List (BitVec 32))) :: hownT 28 1 encI (.slice none 0 0) (([] : List Int)) :: l⟩ ∧ n = ((firm_1.length : Int) - i_196).toNat ∧ 0 ≤ i_196 ∧ forK (σ := (List (BitVec 32))) (fun i s nx_ => syllogistref_Wall_b197 i s nx_) (fun s => syllogistref_Wall_k25 who_0 firm_1 class_2 script_3 s) n i_196 l21 = some r) _ ((0 : Int), ([] : List (BitVec 32))) ⟨_, rfl, rfl, rfl, (by omega), hr⟩ ?_
  rintro n199 ⟨i_196, l21⟩ env x ⟨v22, rfl, rfl, hni_196, h0i_196, hr⟩
  cases n199 with
  | zero =>
    simp only [forK] at hr
    refine Tr.seq ?_
    refine Tr.seq ?_
    refine Tr.region_f (fun _ => false) ?_
    refine W.q rfl rfl rfl rfl (by decide) (Yd.mv rfl (.t rfl)) ?_
    refine W.q rfl rfl rfl rfl (by decide) (Yd.mv rfl (.t rfl)) ?_
    refine W.q rfl rfl rfl rfl (by decide) (Yd.lenR hfirm_1 rfl Try.underlying22 (.t rfl)) ?_
    refine W.q rfl rfl rfl rfl (by decide) (Yd.lss rfl (.t rfl) (.t rfl)) ?_
    refine W.end ?_
    refine NX.sub (env' := [(0, _), (1, _), (2, _), (3, _), (8, _), (9, _), (10, _), (11, _), (12, _), (33, _)]) ⟨rfl, rfl, rfl, rfl, rfl, rfl, rfl, rfl, rfl, rfl, trivial⟩ ?_
    refine NX.then ?_
    refine Tr.cond (.t rfl) (fun hb => ?_) (fun hb => ?_)
    · exact absurd (hb.symm.trans (fr_end hni_196)) (by decide)
    ·
      refine Tr.exit' (EX.then (EX.then (EX.block ?_)))
      refine NX.sub (env' := [(0, _), (1, _), (2, _), (3, _), (8, _), (9, _), (10, _), (11, _)]) ⟨rfl, rfl, rfl, rfl, rfl, rfl, rfl, rfl, trivial⟩ ?_
      exact hk26 _ _ ⟨_, _, rfl, rfl, hr⟩
  | succ n199 =>
    obtain ⟨nx198, hnx198, hr⟩ := forK_succ hr
    try dsimp only at hr
    unfold syllogistref_Wall_b197 at hr
    try dsimp only at hr
    have hlti_196 := fr_bnd hni_196
    refine Tr.seq ?_
    refine Tr.seq ?_
    refine Tr.region_f (fun _ => false) ?_
    refine W.q rfl rfl rfl rfl (by decide) (Yd.mv rfl (.t rfl)) ?_
    refine W.q rfl rfl rfl rfl (by decide) (Yd.mv rfl (.t rfl)) ?_
    refine W.q rfl rfl rfl rfl (by decide) (Yd.lenR hfirm_1 rfl Try.underlying22 (.t rfl)) ?_
    refine W.q rfl rfl rfl rfl (by decide) (Yd.lss rfl (.t rfl) (.t rfl)) ?_
    refine W.end ?_
    refine NX.sub (env' := [(0, _), (1, _), (2, _), (3, _), (8, _), (9, _), (10, _), (11, _), (12, _), (33, _)]) ⟨rfl, rfl, rfl, rfl, rfl, rfl, rfl, rfl, rfl, rfl, trivial⟩ ?_
    refine NX.then ?_
    refine Tr.cond (.t rfl) (fun hb => ?_) (fun hb => ?_)
    rotate_left
    · exact absurd (hb.symm.trans (fr_go hni_196)) (by decide)
    ·
      refine Tr.skip' ?_
      refine NX.then ?_
      refine Tr.seq ?_
      refine Tr.block ?_
      obtain ⟨hq203, hr⟩ := guard_some hr; replace hq203 := of_decide_eq_true hq203
      refine Tr.region_f (fun i => Nat.beq i 5 || Nat.beq i 6 || Nat.beq i 8) ?_
      refine W.q rfl rfl rfl rfl (by decide) (Yd.fldB rfl Try.underlying27 rfl SZ25 rfl (.t rfl)) ?_
      refine W.q rfl rfl rfl rfl (by decide) (Yd.ldB (pos := 3) rfl rfl rfl ON25 (.t rfl)) ?_
      refine W.q rfl rfl rfl rfl (by decide) (Yd.mv rfl (.t rfl)) ?_
      refine W.q rfl rfl rfl rfl (by decide) (Yd.cvQ rfl US3 Try.underlying46 (.t rfl)) ?_
      refine W.q rfl rfl rfl rfl (by decide) (Yd.shlU (a := 1#32) rfl .c (.t rfl) (Int.natCast_nonneg _)) ?_
      refine W.e rfl rfl rfl rfl (by decide) (Ef.bsT (enc := encU) (vs := [_]) (ys := [(1#32 <<< ((BitVec.ofInt 64 i_196)).toNat)]) (fun _ => rfl) IF39 rfl Try.underlying25 (by decide) rfl (.cons (.t rfl) .nil) rfl rfl (by decide)) ?_
      rintro v200 _ rfl
      refine ⟨.inl rfl, ?_⟩
      refine W.cast (m' := m) (l' := hownT 39 1 encU v200 _ :: hownT 39 1 encU v15 _ :: hown 22 1 v12 _ _ :: hrows 3 1 encI _ _ :: hcells b9 [_, _, _] 27 :: hownT 39 1 encU v22 _ :: hownT 39 1 encU (.slice none 0 0) (([] : List (BitVec 32))) :: hownT 28 1 encI (.slice none 0 0) (([] : List Int)) :: hcells b4 [_, _, _] 27 :: hownT 39 1 encU (.slice none 0 0) (([] : List (BitVec 32))) :: hownT 39 1 encU (.slice none 0 0) (([] : List (BitVec 32))) :: hownT 28 1 encI (.slice none 0 0) (([] : List Int)) :: l) rfl rfl ?_
      refine W.e rfl rfl rfl rfl (by decide) (Ef.apI (pos := 5) (enc := encU) (xs := l21) (ys := ([(1#32 <<< ((BitVec.ofInt 64 i_196)).toNat)] : List (BitVec 32))) (fun _ => rfl) IF39 rfl rfl Try.underlying25 rfl (by decide) (.t rfl) (.t rfl) (Src.own (pos := 0) rfl) (fun _ => rfl) (by omega) (by omega)) ?_
      rintro v202 _ rfl
      refine ⟨.inl rfl, ?_⟩
      refine W.cast (m' := m) (l' := hownT 39 1 encU v200 _ :: hownT 39 1 encU v15 _ :: hown 22 1 v12 _ _ :: hrows 3 1 encI _ _ :: hcells b9 [_, _, _] 27 :: hownT 39 1 encU v202 _ :: hownT 39 1 encU (.slice none 0 0) (([] : List (BitVec 32))) :: hownT 28 1 encI (.slice none 0 0) (([] : List Int)) :: hcells b4 [_, _, _] 27 :: hownT 39 1 encU (.slice none 0 0) (([] : List (BitVec 32))) :: hownT 39 1 encU (.slice none 0 0) (([] : List (BitVec 32))) :: hownT 28 1 encI (.slice none 0 0) (([] : List Int)) :: l) rfl rfl ?_
      refine W.q rfl rfl rfl rfl (by decide) (Yd.fldB rfl Try.underlying27 rfl SZ25 rfl (.t rfl)) ?_
      refine W.s rfl rfl rfl rfl (Ef.stBo (pos := 4) (pos2 := 5) (cs' := [_, _, _]) rfl rfl rfl (.t rfl) (.t rfl) SZ25 (Nat.le_of_ble_eq_true rfl) rfl) ?_
      rintro _ _ ⟨rfl, rfl⟩
      refine ⟨.inl rfl, ?_⟩
      refine W.cast (m' := m) (l' := hownT 39 1 encU v200 _ :: hownT 39 1 encU v15 _ :: hown 22 1 v12 _ _ :: hrows 3 1 encI _ _ :: hcells b9 [_, _, _] 27 :: hownT 39 1 encU v202 _ :: hownT 39 1 encU (.slice none 0 0) (([] : List (BitVec 32))) :: hownT 28 1 encI (.slice none 0 0) (([] : List Int)) :: hcells b4 [_, _, _] 27 :: hownT 39 1 encU (.slice none 0 0) (([] : List (BitVec 32))) :: hownT 39 1 encU (.slice none 0 0) (([] : List (BitVec 32))) :: hownT 28 1 encI (.slice none 0 0) (([] : List Int)) :: l) rfl rfl ?_
      refine W.end ?_
      refine NX.sub (env' := [(0, _), (1, _), (2, _), (3, _), (8, _), (9, _), (10, _), (11, _), (12, _)]) ⟨rfl, rfl, rfl, rfl, rfl, rfl, rfl, rfl, rfl, trivial⟩ ?_
      refine NX.drop (l' := hownT 39 1 encU v15 _ :: hown 22 1 v12 _ _ :: hrows 3 1 encI _ _ :: hcells b9 [_, _, _] 27 :: hownT 39 1 encU v202 _ :: hownT 39 1 encU (.slice none 0 0) (([] : List (BitVec 32))) :: hownT 28 1 encI (.slice none 0 0) (([] : List Int)) :: hcells b4 [_, _, _] 27 :: hownT 39 1 encU (.slice none 0 0) (([] : List (BitVec 32))) :: hownT 39 1 encU (.slice none 0 0) (([] : List (BitVec 32))) :: hownT 28 1 encI (.slice none 0 0) (([] : List Int)) :: l) (.cons _ (.cons_cons _ (.cons_cons _ (.cons_cons _ (.cons_cons _ (.cons_cons _ (.cons_cons _ (.cons_cons _ (.cons_cons _ (.cons_cons _ (.cons_cons _ (.cons_cons _ (.refl _))))))))))))) ?_
      refine NX.block ?_
      refine NX.then ?_
      refine Tr.region_f (fun _ => false) ?_
      refine W.q rfl rfl rfl rfl (by decide) (Yd.mv rfl (.t rfl)) ?_
      refine W.q rfl rfl rfl rfl (by decide) (Yd.add rfl (.t rfl) .c) ?_
      refine W.q rfl rfl rfl rfl (by decide) (Yd.as rfl (.t rfl)) ?_
      refine W.end ?_
      refine NX.sub (env' := [(0, _), (1, _), (2, _), (3, _), (8, _), (9, _), (10, _), (11, _), (12, _)]) ⟨rfl, rfl, rfl, rfl, rfl, rfl, rfl, rfl, rfl, trivial⟩ ?_
      refine NX.sub (env' := [(0, _), (1, _), (2, _), (3, _), (8, _), (9, _), (10, _), (11, _), (12, _)]) ⟨rfl, rfl, rfl, rfl, rfl, rfl, rfl, rfl, rfl, trivial⟩ ?_
      have hw := w64_id (n := i_196 + 1) (by omega) (by omega)
      exact NX.again n199 (i_196 + 1, (l21 ++ ([(1#32 <<< ((BitVec.ofInt 64 i_196)).toNat)] : List (BitVec 32)))) (Nat.lt_succ_self _) ⟨_, (by rw [hw] <;> rfl), rfl, (fr_dec hni_196), (by omega), ((hnx198 _).symm.trans hr)⟩

def syllogistref_Codes_k3 : Option (Bool) :=
  some true

def syllogistref_Codes_b7 (a_0 : List Int) (b_1 : List Int) (i_6 : Int) (nx8 : Unit → Option (Bool)) : Option (Bool) :=
  (geti a_0 i_6).bind fun y10 =>
  (geti b_1 i_6).bind fun y12 =>
  (bif (y10 != y12) then
  some false
  else
  nx8 ())

def syllogistref_Codes (a_0 : List Int) (b_1 : List Int) : Option (Bool) :=
  (bif ((a_0.length : Int) != (b_1.length : Int)) then
  some false
  else
  forK (σ := Unit) (fun i s nx_ => syllogistref_Codes_b7 a_0 b_1 i nx_) (fun _ => syllogistref_Codes_k3) ((a_0.length : Int) - (0 : Int)).toNat (0 : Int) ())

set_option maxRecDepth 100000 in
set_option maxHeartbeats 4000000 in
theorem syllogistref_Codes_ok (w0 : World) (m : Snap) (l : List HI) (ua_0 : Value) (a_0 : List Int) (ha_0 : RS rI m ua_0 a_0) (ub_1 : Value) (b_1 : List Int) (hb_1 : RS rI m ub_1 b_1) (r : Bool) (hr : syllogistref_Codes a_0 b_1 = some r) (w : World) (hc : cX w0 ⟨m, l⟩ w) :
    Calls Try.prog 7 [ua_0, ub_1].toArray w fun e w' => e = .returned (.bool r) ∧ cX w0 ⟨m, l⟩ w' := by
  unfold syllogistref_Codes at hr
  refine calls_of_Tr (N := 26) Try.func7 rfl hc rfl (Nat.le_of_ble_eq_true rfl) ?_
  refine Tr.seq ?_
  refine Tr.region_f (fun _ => false) ?_
  refine W.q rfl rfl rfl rfl (by decide) (Yd.as rfl .c) ?_
  refine W.end ?_
  refine NX.sub (env' := [(0, _), (1, _)]) ⟨rfl, rfl, trivial⟩ ?_
  refine NX.then ?_
  refine Tr.seq ?_
  refine Tr.seq ?_
  refine Tr.region_f (fun _ => false) ?_
  refine W.q rfl rfl rfl rfl (by decide) (Yd.mv rfl (.t rfl)) ?_
  refine W.q rfl rfl rfl rfl (by decide) (Yd.lenR ha_0 rfl Try.underlying24 (.t rfl)) ?_
  refine W.q rfl rfl rfl rfl (by decide) (Yd.mv rfl (.t rfl)) ?_
  refine W.q rfl rfl rfl rfl (by decide) (Yd.lenR hb_1 rfl Try.underlying24 (.t rfl)) ?_
  refine W.q rfl rfl rfl rfl (by decide) (Yd.neq rfl (.t rfl) (.t rfl)) ?_
  refine W.end ?_
  refine NX.sub (env' := [(0, _), (1, _), (10, _)]) ⟨rfl, rfl, rfl, trivial⟩ ?_
  refine NX.then ?_
  refine Tr.cond (.t rfl) (fun hb => ?_) (fun hb => ?_)
  · have hr := cond_t hb hr
    refine Tr.seq ?_
    refine Tr.region_f (fun _ => false) ?_
    refine W.q rfl rfl rfl rfl (by decide) (Yd.as rfl .c) ?_
    refine W.end ?_
    refine NX.sub (env' := [(4, _)]) ⟨rfl, trivial⟩ ?_
    refine NX.then ?_
    refine Tr.ret' (RT.then ?_)
    refine res1 rfl rfl ?_
    intro w hc
    cases hr
    exact ⟨rfl, hc⟩
  · have hr := cond_f hb hr
    refine Tr.skip' ?_
    refine NX.then ?_
    refine Tr.seq ?_
    refine Tr.seq ?_
    refine Tr.region_f (fun _ => false) ?_
    refine W.q rfl rfl rfl rfl (by decide) (Yd.as rfl .c) ?_
    refine W.end ?_
    refine NX.sub (env' := [(0, _), (1, _), (5, _)]) ⟨rfl, rfl, rfl, trivial⟩ ?_
    refine NX.then ?_
    refine Tr.join (S := fun env x => env = [] ∧ x = ⟨m, l⟩ ∧ syllogistref_Codes_k3 = some r) ?_ (fun hk4 => ?_)
    · rintro _ _ ⟨rfl, rfl, hr⟩
      unfold syllogistref_Codes_k3 at hr
      try dsimp only at hr
      refine NX.then ?_
      refine Tr.seq ?_
      refine Tr.region_f (fun _ => false) ?_
      refine W.q rfl rfl rfl rfl (by decide) (Yd.as rfl .c) ?_
      refine W.end ?_
      refine NX.sub (env' := [(4, _)]) ⟨rfl, trivial⟩ ?_
      refine NX.then ?_
      refine Tr.ret' ?_
      refine res1 rfl rfl ?_
      intro w hc
      cases hr
      exact ⟨rfl, hc⟩
    have hlen5 := (ha_0).2.1
    refine Tr.block ?_
    refine Tr.sub (env' := [(0, _), (1, _), (5, _)]) ⟨rfl, rfl, rfl, trivial⟩ ?_
    refine Tr.loop (S := fun n (z : Int × Unit) env x => match z with | (i_6, _) => env = [(0, ua_0), (1, ub_1), (5, .int .i64 i_6)] ∧ x = ⟨m, l⟩ ∧ n = ((a_0.length : Int) - i_6).toNat ∧ 0 ≤ i_6 ∧ forK (σ := Unit) (fun i s nx_ => syllogistref_Codes_b7 a_0 b_1 i nx_) (fun _ => syllogistref_Codes_k3) n i_6 () = some r) _ ((0 : Int), ()) ⟨rfl, rfl, rfl, (by omega), hr⟩ ?_
    rintro n9 ⟨i_6, _⟩ env x ⟨rfl, rfl, hni_6, h0i_6, hr⟩
    cases n9 with
    | zero =>
      simp only [forK] at hr
      refine Tr.seq ?_
      refine Tr.seq ?_
      refine Tr.region_f (fun _ => false) ?_
      refine W.q rfl rfl rfl rfl (by decide) (Yd.mv rfl (.t rfl)) ?_
      refine W.q rfl rfl rfl rfl (by decide) (Yd.mv rfl (.t rfl)) ?_
      refine W.q rfl rfl rfl rfl (by decide) (Yd.lenR ha_0 rfl Try.underlying24 (.t rfl)) ?_
      refine W.q rfl rfl rfl rfl (by decide) (Yd.lss rfl (.t rfl) (.t rfl)) ?_
      refine W.end ?_
      refine NX.sub (env' := [(0, _), (1, _), (5, _), (14, _)]) ⟨rfl, rfl, rfl, rfl, trivial⟩ ?_
      refine NX.then ?_
      refine Tr.cond (.t rfl) (fun hb => ?_) (fun hb => ?_)
      · exact absurd (hb.symm.trans (fr_end hni_6)) (by decide)
      ·
        refine Tr.exit' (EX.then (EX.then (EX.block ?_)))
        refine NX.sub (env' := []) trivial ?_
        exact hk4 _ _ ⟨rfl, rfl, hr⟩
    | succ n9 =>
      obtain ⟨nx8, hnx8, hr⟩ := forK_succ hr
      try dsimp only at hr
      unfold syllogistref_Codes_b7 at hr
      try dsimp only at hr
      have hlti_6 := fr_bnd hni_6
      refine Tr.seq ?_
      refine Tr.seq ?_
      refine Tr.region_f (fun _ => false) ?_
      refine W.q rfl rfl rfl rfl (by decide) (Yd.mv rfl (.t rfl)) ?_
      refine W.q rfl rfl rfl rfl (by decide) (Yd.mv rfl (.t rfl)) ?_
      refine W.q rfl rfl rfl rfl (by decide) (Yd.lenR ha_0 rfl Try.underlying24 (.t rfl)) ?_
      refine W.q rfl rfl rfl rfl (by decide) (Yd.lss rfl (.t rfl) (.t rfl)) ?_
      refine W.end ?_
      refine NX.sub (env' := [(0, _), (1, _), (5, _), (14, _)]) ⟨rfl, rfl, rfl, rfl, trivial⟩ ?_
      refine NX.then ?_
      refine Tr.cond (.t rfl) (fun hb => ?_) (fun hb => ?_)
      rotate_left
      · exact absurd (hb.symm.trans (fr_go hni_6)) (by decide)
      ·
        refine Tr.skip' ?_
        refine NX.then ?_
        refine Tr.seq ?_
        refine Tr.block ?_
        refine Tr.seq ?_
        obtain ⟨y10, hy11, hr⟩ := bind_some hr
        obtain ⟨y12, hy13, hr⟩ := bind_some hr
        refine Tr.region_x (fun _ => false) (fun _ => false) (Ord.of [0, 1, 2, 3, 4, 5, 6, 7, 8]) FM (by kernel_rfl) ?_
        refine W.q rfl rfl rfl rfl (by decide) (Yd.mv rfl (.t rfl)) ?_
        refine W.q rfl rfl rfl rfl (by decide) (Yd.mv rfl (.t rfl)) ?_
        refine W.q rfl rfl rfl rfl (by decide) (Yd.idxR ha_0 hy11 rfl Try.underlying24 SZ28 (.t rfl) (.t rfl)) ?_
        refine W.q rfl rfl rfl rfl (by decide) (Yd.ldF ha_0 (.refl _) hy11 rfl rfl ON28 (.t rfl)) ?_
        refine W.q rfl rfl rfl rfl (by decide) (Yd.mv rfl (.t rfl)) ?_
        refine W.q rfl rfl rfl rfl (by decide) (Yd.mv rfl (.t rfl)) ?_
        refine W.q rfl rfl rfl rfl (by decide) (Yd.idxR hb_1 hy13 rfl Try.underlying24 SZ28 (.t rfl) (.t rfl)) ?_
        refine W.q rfl rfl rfl rfl (by decide) (Yd.ldF hb_1 (.refl _) hy13 rfl rfl ON28 (.t rfl)) ?_
        refine W.q rfl rfl rfl rfl (by decide) (Yd.neq rfl (.t rfl) (.t rfl)) ?_
        refine W.end ?_
        refine NX.sub (env' := [(0, _), (1, _), (5, _), (25, _)]) ⟨rfl, rfl, rfl, rfl, trivial⟩ ?_
        refine NX.then ?_
        refine Tr.cond (.t rfl) (fun hb => ?_) (fun hb => ?_)
        · have hr := cond_t hb hr
          refine Tr.seq ?_
          refine Tr.region_f (fun _ => false) ?_
          refine W.q rfl rfl rfl rfl (by decide) (Yd.as rfl .c) ?_
          refine W.end ?_
          refine NX.sub (env' := [(4, _)]) ⟨rfl, trivial⟩ ?_
          refine NX.then ?_
          refine Tr.ret' (RT.block (RT.then (RT.then (RT.block (RT.then ?_)))))
          refine res1 rfl rfl ?_
          intro w hc
          cases hr
          exact ⟨rfl, hc⟩
        · have hr := cond_f hb hr
          refine Tr.skip' ?_
          refine NX.block ?_
          refine NX.then ?_
          refine Tr.region_f (fun _ => false) ?_
          refine W.q rfl rfl rfl rfl (by decide) (Yd.mv rfl (.t rfl)) ?_
          refine W.q rfl rfl rfl rfl (by decide) (Yd.add rfl (.t rfl) .c) ?_
          refine W.q rfl rfl rfl rfl (by decide) (Yd.as rfl (.t rfl)) ?_
          refine W.end ?_
          refine NX.sub (env' := [(0, _), (1, _), (5, _)]) ⟨rfl, rfl, rfl, trivial⟩ ?_
          refine NX.sub (env' := [(0, _), (1, _), (5, _)]) ⟨rfl, rfl, rfl, trivial⟩ ?_
          have hw := w64_id (n := i_6 + 1) (by omega) (by omega)
          exact NX.again n9 (i_6 + 1, ()) (Nat.lt_succ_self _) ⟨(by rw [hw] <;> rfl), rfl, (fr_dec hni_6), (by omega), ((hnx8 _).symm.trans hr)⟩

def syllogistref_Words_k3 : Option (Bool) :=
  some true

def syllogistref_Words_b7 (a_0 : List (BitVec 32)) (b_1 : List (BitVec 32)) (i_6 : Int) (nx8 : Unit → Option (Bool)) : Option (Bool) :=
  (geti a_0 i_6).bind fun y10 =>
  (geti b_1 i_6).bind fun y12 =>
  (bif (y10 != y12) then
  some false
  else
  nx8 ())

def syllogistref_Words (a_0 : List (BitVec 32)) (b_1 : List (BitVec 32)) : Option (Bool) :=
  (bif ((a_0.length : Int) != (b_1.length : Int)) then
  some false
  else
  forK (σ := Unit) (fun i s nx_ => syllogistref_Words_b7 a_0 b_1 i nx_) (fun _ => syllogistref_Words_k3) ((a_0.length : Int) - (0 : Int)).toNat (0 : Int) ())

set_option maxRecDepth 100000 in
set_option maxHeartbeats 4000000 in
theorem syllogistref_Words_ok (w0 : World) (m : Snap) (l : List HI) (ua_0 : Value) (a_0 : List (BitVec 32)) (ha_0 : RS rU m ua_0 a_0) (ub_1 : Value) (b_1 : List (BitVec 32)) (hb_1 : RS rU m ub_1 b_1) (r : Bool) (hr : syllogistref_Words a_0 b_1 = some r) (w : World) (hc : cX w0 ⟨m, l⟩ w) :
    Calls Try.prog 8 [ua_0, ub_1].toArray w fun e w' => e = .returned (.bool r) ∧ cX w0 ⟨m, l⟩ w' := by
  unfold syllogistref_Words at hr
  refine calls_of_Tr (N := 26) Try.func8 rfl hc rfl (Nat.le_of_ble_eq_true rfl) ?_
  refine Tr.seq ?_
  refine Tr.region_f (fun _ => false) ?_
  refine W.q rfl rfl rfl rfl (by decide) (Yd.as rfl .c) ?_
  refine W.end ?_
  refine NX.sub (env' := [(0, _), (1, _)]) ⟨rfl, rfl, trivial⟩ ?_
  refine NX.then ?_
  refine Tr.seq ?_
  refine Tr.seq ?_
  refine Tr.region_f (fun _ => false) ?_
  refine W.q rfl rfl rfl rfl (by decide) (Yd.mv rfl (.t rfl)) ?_
  refine W.q rfl rfl rfl rfl (by decide) (Yd.lenR ha_0 rfl Try.underlying25 (.t rfl)) ?_
  refine W.q rfl rfl rfl rfl (by decide) (Yd.mv rfl (.t rfl)) ?_
  refine W.q rfl rfl rfl rfl (by decide) (Yd.lenR hb_1 rfl Try.underlying25 (.t rfl)) ?_
  refine W.q rfl rfl rfl rfl (by decide) (Yd.neq rfl (.t rfl) (.t rfl)) ?_
  refine W.end ?_
  refine NX.sub (env' := [(0, _), (1, _), (10, _)]) ⟨rfl, rfl, rfl, trivial⟩ ?_
  refine NX.then ?_
  refine Tr.cond (.t rfl) (fun hb => ?_) (fun hb => ?_)
  · have hr := cond_t hb hr
    refine Tr.seq ?_
    refine Tr.region_f (fun _ => false) ?_
    refine W.q rfl rfl rfl rfl (by decide) (Yd.as rfl .c) ?_
    refine W.end ?_
    refine NX.sub (env' := [(4, _)]) ⟨rfl, trivial⟩ ?_
    refine NX.then ?_
    refine Tr.ret' (RT.then ?_)
    refine res1 rfl rfl ?_
    intro w hc
    cases hr
    exact ⟨rfl, hc⟩
  · have hr := cond_f hb hr
    refine Tr.skip' ?_
    refine NX.then ?_
    refine Tr.seq ?_
    refine Tr.seq ?_
    refine Tr.region_f (fun _ => false) ?_
    refine W.q rfl rfl rfl rfl (by decide) (Yd.as rfl .c) ?_
    refine W.end ?_
    refine NX.sub (env' := [(0, _), (1, _), (5, _)]) ⟨rfl, rfl, rfl, trivial⟩ ?_
    refine NX.then ?_
    refine Tr.join (S := fun env x => env = [] ∧ x = ⟨m, l⟩ ∧ syllogistref_Words_k3 = some r) ?_ (fun hk4 => ?_)
    · rintro _ _ ⟨rfl, rfl, hr⟩
      unfold syllogistref_Words_k3 at hr
      try dsimp only at hr
      refine NX.then ?_
      refine Tr.seq ?_
      refine Tr.region_f (fun _ => false) ?_
      refine W.q rfl rfl rfl rfl (by decide) (Yd.as rfl .c) ?_
      refine W.end ?_
      refine NX.sub (env' := [(4, _)]) ⟨rfl, trivial⟩ ?_
      refine NX.then ?_
      refine Tr.ret' ?_
      refine res1 rfl rfl ?_
      intro w hc
      cases hr
      exact ⟨rfl, hc⟩
    have hlen5 := (ha_0).2.1
    refine Tr.block ?_
    refine Tr.sub (env' := [(0, _), (1, _), (5, _)]) ⟨rfl, rfl, rfl, trivial⟩ ?_
    refine Tr.loop (S := fun n (z : Int × Unit) env x => match z with | (i_6, _) => env = [(0, ua_0), (1, ub_1), (5, .int .i64 i_6)] ∧ x = ⟨m, l⟩ ∧ n = ((a_0.length : Int) - i_6).toNat ∧ 0 ≤ i_6 ∧ forK (σ := Unit) (fun i s nx_ => syllogistref_Words_b7 a_0 b_1 i nx_) (fun _ => syllogistref_Words_k3) n i_6 () = some r) _ ((0 : Int), ()) ⟨rfl, rfl, rfl, (by omega), hr⟩ ?_
    rintro n9 ⟨i_6, _⟩ env x ⟨rfl, rfl, hni_6, h0i_6, hr⟩
    cases n9 with
    | zero =>
      simp only [forK] at hr
      refine Tr.seq ?_
      refine Tr.seq ?_
      refine Tr.region_f (fun _ => false) ?_
      refine W.q rfl rfl rfl rfl (by decide) (Yd.mv rfl (.t rfl)) ?_
      refine W.q rfl rfl rfl rfl (by decide) (Yd.mv rfl (.t rfl)) ?_
      refine W.q rfl rfl rfl rfl (by decide) (Yd.lenR ha_0 rfl Try.underlying25 (.t rfl)) ?_
      refine W.q rfl rfl rfl rfl (by decide) (Yd.lss rfl (.t rfl) (.t rfl)) ?_
      refine W.end ?_
      refine NX.sub (env' := [(0, _), (1, _), (5, _), (14, _)]) ⟨rfl, rfl, rfl, rfl, trivial⟩ ?_
      refine NX.then ?_
      refine Tr.cond (.t rfl) (fun hb => ?_) (fun hb => ?_)
      · exact absurd (hb.symm.trans (fr_end hni_6)) (by decide)
      ·
        refine Tr.exit' (EX.then (EX.then (EX.block ?_)))
        refine NX.sub (env' := []) trivial ?_
        exact hk4 _ _ ⟨rfl, rfl, hr⟩
    | succ n9 =>
      obtain ⟨nx8, hnx8, hr⟩ := forK_succ hr
      try dsimp only at hr
      unfold syllogistref_Words_b7 at hr
      try dsimp only at hr
      have hlti_6 := fr_bnd hni_6
      refine Tr.seq ?_
      refine Tr.seq ?_
      refine Tr.region_f (fun _ => false) ?_
      refine W.q rfl rfl rfl rfl (by decide) (Yd.mv rfl (.t rfl)) ?_
      refine W.q rfl rfl rfl rfl (by decide) (Yd.mv rfl (.t rfl)) ?_
      refine W.q rfl rfl rfl rfl (by decide) (Yd.lenR ha_0 rfl Try.underlying25 (.t rfl)) ?_
      refine W.q rfl rfl rfl rfl (by decide) (Yd.lss rfl (.t rfl) (.t rfl)) ?_
      refine W.end ?_
      refine NX.sub (env' := [(0, _), (1, _), (5, _), (14, _)]) ⟨rfl, rfl, rfl, rfl, trivial⟩ ?_
      refine NX.then ?_
      refine Tr.cond (.t rfl) (fun hb => ?_) (fun hb => ?_)
      rotate_left
      · exact absurd (hb.symm.trans (fr_go hni_6)) (by decide)
      ·
        refine Tr.skip' ?_
        refine NX.then ?_
        refine Tr.seq ?_
        refine Tr.block ?_
        refine Tr.seq ?_
        obtain ⟨y10, hy11, hr⟩ := bind_some hr
        obtain ⟨y12, hy13, hr⟩ := bind_some hr
        refine Tr.region_x (fun _ => false) (fun _ => false) (Ord.of [0, 1, 2, 3, 4, 5, 6, 7, 8]) FM (by kernel_rfl) ?_
        refine W.q rfl rfl rfl rfl (by decide) (Yd.mv rfl (.t rfl)) ?_
        refine W.q rfl rfl rfl rfl (by decide) (Yd.mv rfl (.t rfl)) ?_
        refine W.q rfl rfl rfl rfl (by decide) (Yd.idxR ha_0 hy11 rfl Try.underlying25 SZ39 (.t rfl) (.t rfl)) ?_
        refine W.q rfl rfl rfl rfl (by decide) (Yd.ldF ha_0 (.refl _) hy11 rfl rfl ON39 (.t rfl)) ?_
        refine W.q rfl rfl rfl rfl (by decide) (Yd.mv rfl (.t rfl)) ?_
        refine W.q rfl rfl rfl rfl (by decide) (Yd.mv rfl (.t rfl)) ?_
        refine W.q rfl rfl rfl rfl (by decide) (Yd.idxR hb_1 hy13 rfl Try.underlying25 SZ39 (.t rfl) (.t rfl)) ?_
        refine W.q rfl rfl rfl rfl (by decide) (Yd.ldF hb_1 (.refl _) hy13 rfl rfl ON39 (.t rfl)) ?_
        refine W.q rfl rfl rfl rfl (by decide) (Yd.neqU (a := y10) (b := y12) rfl (.t rfl) (.t rfl)) ?_
        refine W.end ?_
        refine NX.sub (env' := [(0, _), (1, _), (5, _), (25, _)]) ⟨rfl, rfl, rfl, rfl, trivial⟩ ?_
        refine NX.then ?_
        refine Tr.cond (.t rfl) (fun hb => ?_) (fun hb => ?_)
        · have hr := cond_t hb hr
          refine Tr.seq ?_
          refine Tr.region_f (fun _ => false) ?_
          refine W.q rfl rfl rfl rfl (by decide) (Yd.as rfl .c) ?_
          refine W.end ?_
          refine NX.sub (env' := [(4, _)]) ⟨rfl, trivial⟩ ?_
          refine NX.then ?_
          refine Tr.ret' (RT.block (RT.then (RT.then (RT.block (RT.then ?_)))))
          refine res1 rfl rfl ?_
          intro w hc
          cases hr
          exact ⟨rfl, hc⟩
        · have hr := cond_f hb hr
          refine Tr.skip' ?_
          refine NX.block ?_
          refine NX.then ?_
          refine Tr.region_f (fun _ => false) ?_
          refine W.q rfl rfl rfl rfl (by decide) (Yd.mv rfl (.t rfl)) ?_
          refine W.q rfl rfl rfl rfl (by decide) (Yd.add rfl (.t rfl) .c) ?_
          refine W.q rfl rfl rfl rfl (by decide) (Yd.as rfl (.t rfl)) ?_
          refine W.end ?_
          refine NX.sub (env' := [(0, _), (1, _), (5, _)]) ⟨rfl, rfl, rfl, trivial⟩ ?_
          refine NX.sub (env' := [(0, _), (1, _), (5, _)]) ⟨rfl, rfl, rfl, trivial⟩ ?_
          have hw := w64_id (n := i_6 + 1) (by omega) (by omega)
          exact NX.again n9 (i_6 + 1, ()) (Nat.lt_succ_self _) ⟨(by rw [hw] <;> rfl), rfl, (fr_dec hni_6), (by omega), ((hnx8 _).symm.trans hr)⟩

def syllogistlaw_WallPlays_k35 (r4 : Walled × Int) (x_17 : Int) (c25 : List Int) (c28 : List (BitVec 32)) (c31 : List (BitVec 32)) : Option (Bool) :=
  bif (!((r4.2 == x_17) == true) || (syllogistref_Codes r4.1.codes c25).isSome) then
  bif (!(((r4.2 == x_17) && (((syllogistref_Codes r4.1.codes c25).getD false))) == true) || (syllogistref_Words r4.1.read c28).isSome) then
  bif (!((((r4.2 == x_17) && (((syllogistref_Codes r4.1.codes c25).getD false))) && (((syllogistref_Words r4.1.read c28).getD false))) == true) || (syllogistref_Words r4.1.src c31).isSome) then
  some (((((r4.2 == x_17) && (((syllogistref_Codes r4.1.codes c25).getD false))) && (((syllogistref_Words r4.1.read c28).getD false))) && (((syllogistref_Words r4.1.src c31).getD false)))) else none else none else none

def syllogistlaw_WallPlays_k18 (who_0 : Int) (firm_1 : List Int) (class_2 : List Int) (script_3 : List Deed) (r4 : Walled × Int) (x_17 : Int) : Option (Bool) :=
  (bif (x_17 == (0 : Int)) then
  (syllogistref_Wall who_0 firm_1 class_2 script_3).bind fun r40 =>
  syllogistlaw_WallPlays_k35 r4 x_17 r40.codes r40.read r40.src
  else
  syllogistlaw_WallPlays_k35 r4 x_17 (([] : List Int)) (([] : List (BitVec 32))) (([] : List (BitVec 32))))

def syllogistlaw_WallPlays (who_0 : Int) (firm_1 : List Int) (class_2 : List Int) (script_3 : List Deed) : Option (Bool) :=
  (wall_Play who_0 firm_1 class_2 script_3).bind fun r4 =>
  (syllogistref_FirmsCheck firm_1 class_2).bind fun r15 =>
  (bif (((decide (who_0 < (1 : Int))) || (decide (who_0 > (5 : Int)))) || (decide ((script_3.length : Int) > (30 : Int)))) then
  syllogistlaw_WallPlays_k18 who_0 firm_1 class_2 script_3 r4 ((1 : Int))
  else
  syllogistlaw_WallPlays_k18 who_0 firm_1 class_2 script_3 r4 r15)

set_option maxRecDepth 100000 in
set_option maxHeartbeats 4000000 in
theorem syllogistlaw_WallPlays_ok (w0 : World) (m : Snap) (l : List HI) (who_0 : Int) (ufirm_1 : Value) (firm_1 : List Int) (hfirm_1 : RS rI m ufirm_1 firm_1) (uclass_2 : Value) (class_2 : List Int) (hclass_2 : RS rI m uclass_2 class_2) (uscript_3 : Value) (script_3 : List Deed) (hscript_3 : RS rDeed m uscript_3 script_3) (r : Bool) (hr : syllogistlaw_WallPlays who_0 firm_1 class_2 script_3 = some r) (w : World) (hc : cX w0 ⟨m, l⟩ w) :
    Calls Try.prog 3 [.int .i64 who_0, ufirm_1, uclass_2, uscript_3].toArray w fun e w' => e = .returned (.bool r) ∧ cX w0 ⟨m, l⟩ w' := by
  unfold syllogistlaw_WallPlays at hr
  refine calls_of_Tr (N := 67) Try.func3 rfl hc rfl (Nat.le_of_ble_eq_true rfl) ?_
  refine Tr.seq ?_
  refine Tr.region_f (fun _ => false) ?_
  refine W.q rfl rfl rfl rfl (by decide) (Yd.as rfl .c) ?_
  refine W.end ?_
  refine NX.sub (env' := [(0, _), (1, _), (2, _), (3, _)]) ⟨rfl, rfl, rfl, rfl, trivial⟩ ?_
  refine NX.then ?_
  refine Tr.seq ?_
  refine Tr.addnil 28 1 ?_
  refine Tr.cast (m' := m) (l' := hownT 28 1 encI (.slice none 0 0) (([] : List Int)) :: l) rfl rfl ?_
  refine Tr.addnil 39 1 ?_
  refine Tr.cast (m' := m) (l' := hownT 39 1 encU (.slice none 0 0) (([] : List (BitVec 32))) :: hownT 28 1 encI (.slice none 0 0) (([] : List Int)) :: l) rfl rfl ?_
  refine Tr.addnil 39 1 ?_
  refine Tr.cast (m' := m) (l' := hownT 39 1 encU (.slice none 0 0) (([] : List (BitVec 32))) :: hownT 39 1 encU (.slice none 0 0) (([] : List (BitVec 32))) :: hownT 28 1 encI (.slice none 0 0) (([] : List Int)) :: l) rfl rfl ?_
  obtain ⟨r4, hr5, hr⟩ := bind_some hr
  refine Tr.region_f (fun i => Nat.beq i 4 || Nat.beq i 8 || Nat.beq i 9) ?_
  refine W.q rfl rfl rfl rfl (by decide) (Yd.mv rfl (.t rfl)) ?_
  refine W.q rfl rfl rfl rfl (by decide) (Yd.mv rfl (.t rfl)) ?_
  refine W.q rfl rfl rfl rfl (by decide) (Yd.mv rfl (.t rfl)) ?_
  refine W.q rfl rfl rfl rfl (by decide) (Yd.mv rfl (.t rfl)) ?_
  refine W.e rfl rfl rfl rfl (by decide) (Ef.call (R := fun z x' => ∃ u7 : Value, ∃ u9 : Value, ∃ u11 : Value, ∃ m6 : Snap, z = .tuple #[.agg #[u7, u9, u11], .int .i64 r4.2] ∧ x' = ⟨m6, hownT 39 1 encU (.slice none 0 0) (([] : List (BitVec 32))) :: hownT 39 1 encU (.slice none 0 0) (([] : List (BitVec 32))) :: hownT 28 1 encI (.slice none 0 0) (([] : List Int)) :: l⟩ ∧ Sle m m6 ∧ RS rI m6 u7 r4.1.codes ∧ RS rU m6 u9 r4.1.read ∧ RS rU m6 u11 r4.1.src) rfl Try.func4 rfl rfl (.cons (.t rfl) (.cons (.t rfl) (.cons (.t rfl) (.cons (.t rfl) .nil)))) (fun w hw => (wall_Play_ok w0 _ _ who_0 _ _ hfirm_1 _ _ hclass_2 _ _ hscript_3 _ hr5 w hw).mono fun e w' ⟨u7, u9, u11, m6, he, hm', hu8, hu10, hu12, hc'⟩ => ⟨_, _, he, ⟨u7, u9, u11, m6, rfl, rfl, hm', hu8, hu10, hu12⟩, hc'⟩)) ?_
  rintro _ _ ⟨u7, u9, u11, m6, rfl, rfl, hsm6, hu8, hu10, hu12⟩
  have hfirm_1 := hfirm_1.mono hsm6
  have hclass_2 := hclass_2.mono hsm6
  have hscript_3 := hscript_3.mono hsm6
  refine ⟨.inl rfl, ?_⟩
  refine W.cast (m' := m6) (l' := hownT 39 1 encU (.slice none 0 0) (([] : List (BitVec 32))) :: hownT 39 1 encU (.slice none 0 0) (([] : List (BitVec 32))) :: hownT 28 1 encI (.slice none 0 0) (([] : List Int)) :: l) rfl rfl ?_
  refine W.q rfl rfl rfl rfl (by decide) (Yd.mv rfl (.t rfl)) ?_
  refine W.q rfl rfl rfl rfl (by decide) (Yd.ext rfl (.t rfl) rfl) ?_
  refine W.q rfl rfl rfl rfl (by decide) (Yd.ext rfl (.t rfl) rfl) ?_
  refine W.e rfl rfl rfl rfl (by decide) (Ef.al rfl ZR27 rfl) ?_
  rintro _ _ ⟨b13, rfl, rfl⟩
  refine ⟨.inl rfl, ?_⟩
  refine W.cast (m' := m6) (l' := hcells b13 [_, _, _] 27 :: hownT 39 1 encU (.slice none 0 0) (([] : List (BitVec 32))) :: hownT 39 1 encU (.slice none 0 0) (([] : List (BitVec 32))) :: hownT 28 1 encI (.slice none 0 0) (([] : List Int)) :: l) rfl rfl ?_
  refine W.s rfl rfl rfl rfl (Ef.stBs (pos := 0) (us := [u7, u9, u11]) (cs' := [_, _, _]) (.cons (On.ro hu8) (.cons (On.ro hu10) (.cons (On.ro hu12) .nil))) rfl rfl (.t rfl) (.t rfl) SZ27 rfl rfl (Nat.le_of_ble_eq_true rfl) rfl) ?_
  rintro _ _ ⟨rfl, rfl⟩
  refine ⟨.inl rfl, ?_⟩
  refine W.cast (m' := m6) (l' := hcells b13 [_, _, _] 27 :: hownT 39 1 encU (.slice none 0 0) (([] : List (BitVec 32))) :: hownT 39 1 encU (.slice none 0 0) (([] : List (BitVec 32))) :: hownT 28 1 encI (.slice none 0 0) (([] : List Int)) :: l) rfl rfl ?_
  refine W.q rfl rfl rfl rfl (by decide) (Yd.as rfl (.t rfl)) ?_
  refine W.end ?_
  refine NX.sub (env' := [(0, _), (1, _), (2, _), (3, _), (9, _), (10, _)]) ⟨rfl, rfl, rfl, rfl, rfl, rfl, trivial⟩ ?_
  refine NX.drop (l' := hcells b13 [_, _, _] 27 :: l) (.cons_cons _ (.cons _ (.cons _ (.cons _ (.refl _))))) ?_
  refine NX.then ?_
  refine Tr.seq ?_
  obtain ⟨r15, hr16, hr⟩ := bind_some hr
  refine Tr.region_f (fun _ => false) ?_
  refine W.q rfl rfl rfl rfl (by decide) (Yd.mv rfl (.t rfl)) ?_
  refine W.q rfl rfl rfl rfl (by decide) (Yd.mv rfl (.t rfl)) ?_
  refine W.q rfl rfl rfl rfl (by decide) (Yd.call (v := .int .i64 r15) rfl Try.func5 rfl rfl (.cons (.t rfl) (.cons (.t rfl) .nil)) (fun x' hx w hw => syllogistref_FirmsCheck_ok w0 x'.m x'.l _ _ (hfirm_1.mono hx.1) _ _ (hclass_2.mono hx.1) _ hr16 w hw)) ?_
  refine W.q rfl rfl rfl rfl (by decide) (Yd.as rfl (.t rfl)) ?_
  refine W.end ?_
  refine NX.sub (env' := [(0, _), (1, _), (2, _), (3, _), (9, _), (10, _), (11, _)]) ⟨rfl, rfl, rfl, rfl, rfl, rfl, rfl, trivial⟩ ?_
  refine NX.then ?_
  refine Tr.seq ?_
  refine Tr.seq ?_
  refine Tr.region_f (fun _ => false) ?_
  refine W.q rfl rfl rfl rfl (by decide) (Yd.mv rfl (.t rfl)) ?_
  refine W.q rfl rfl rfl rfl (by decide) (Yd.lss rfl (.t rfl) .c) ?_
  refine W.q rfl rfl rfl rfl (by decide) (Yd.mv rfl (.t rfl)) ?_
  refine W.g rfl rfl rfl rfl rfl (.t rfl _) rfl (by decide) (fun hG => Yd.mv rfl (.t rfl)) ?_
  refine W.g rfl rfl rfl rfl rfl (.t rfl _) rfl (by decide) (fun hG => Yd.gtr rfl (.g rfl hG) .c) ?_
  refine W.q rfl rfl rfl rfl (by decide) (Yd.or rfl (.t rfl) .c rfl rfl) ?_
  refine W.q rfl rfl rfl rfl (by decide) (Yd.mv rfl (.t rfl)) ?_
  refine W.g rfl rfl rfl rfl rfl (.t rfl _) rfl (by decide) (fun hG => Yd.mv rfl (.t rfl)) ?_
  refine W.g rfl rfl rfl rfl rfl (.t rfl _) rfl (by decide) (fun hG => Yd.lenR hscript_3 rfl Try.underlying23 (.g rfl hG)) ?_
  refine W.g rfl rfl rfl rfl rfl (.t rfl _) rfl (by decide) (fun hG => Yd.gtr rfl (.g rfl hG) .c) ?_
  refine W.q rfl rfl rfl rfl (by decide) (Yd.or rfl (.t rfl) .c rfl rfl) ?_
  refine W.end ?_
  refine NX.sub (env' := [(0, _), (1, _), (2, _), (3, _), (9, _), (10, _), (11, _), (34, _)]) ⟨rfl, rfl, rfl, rfl, rfl, rfl, rfl, rfl, trivial⟩ ?_
  refine NX.then ?_
  refine Tr.join (S := fun env x => ∃ x_17 : Int, env = [(0, .int .i64 who_0), (1, ufirm_1), (2, uclass_2), (3, uscript_3), (9, bp b13 0), (10, .int .i64 r4.2), (11, .int .i64 x_17)] ∧ x = ⟨m6, hcells b13 [u7, u9, u11] 27 :: l⟩ ∧ syllogistlaw_WallPlays_k18 who_0 firm_1 class_2 script_3 r4 x_17 = some r) ?_ (fun hk19 => ?_)
  · rintro _ _ ⟨x_17, rfl, rfl, hr⟩
    unfold syllogistlaw_WallPlays_k18 at hr
    try dsimp only at hr
    refine NX.then ?_
    refine Tr.seq ?_
    refine Tr.addnil 28 1 ?_
    refine Tr.cast (m' := m6) (l' := hownT 28 1 encI (.slice none 0 0) (([] : List Int)) :: hcells b13 [u7, u9, u11] 27 :: l) rfl rfl ?_
    refine Tr.addnil 39 1 ?_
    refine Tr.cast (m' := m6) (l' := hownT 39 1 encU (.slice none 0 0) (([] : List (BitVec 32))) :: hownT 28 1 encI (.slice none 0 0) (([] : List Int)) :: hcells b13 [u7, u9, u11] 27 :: l) rfl rfl ?_
    refine Tr.addnil 39 1 ?_
    refine Tr.cast (m' := m6) (l' := hownT 39 1 encU (.slice none 0 0) (([] : List (BitVec 32))) :: hownT 39 1 encU (.slice none 0 0) (([] : List (BitVec 32))) :: hownT 28 1 encI (.slice none 0 0) (([] : List Int)) :: hcells b13 [u7, u9, u11] 27 :: l) rfl rfl ?_
    refine Tr.region_f (fun i => Nat.beq i 1 || Nat.beq i 2) ?_
    refine W.q rfl rfl rfl rfl (by decide) (Yd.bld (cells := [.slice none 0 0, .slice none 0 0, .slice none 0 0]) rfl ZI27 PL27 .nil rfl) ?_
    refine W.e rfl rfl rfl rfl (by decide) (Ef.al rfl ZR27 rfl) ?_
    rintro _ _ ⟨b23, rfl, rfl⟩
    refine ⟨.inl rfl, ?_⟩
    refine W.cast (m' := m6) (l' := hcells b23 [_, _, _] 27 :: hownT 39 1 encU (.slice none 0 0) (([] : List (BitVec 32))) :: hownT 39 1 encU (.slice none 0 0) (([] : List (BitVec 32))) :: hownT 28 1 encI (.slice none 0 0) (([] : List Int)) :: hcells b13 [_, _, _] 27 :: l) rfl rfl ?_
    refine W.s rfl rfl rfl rfl (Ef.stB (pos := 0) (us := [_, _, _]) (cs' := [_, _, _]) rfl rfl (.t rfl) (.t rfl) SZ27 rfl rfl rfl (Nat.le_of_ble_eq_true rfl) rfl) ?_
    rintro _ _ ⟨rfl, rfl⟩
    refine ⟨.inl rfl, ?_⟩
    refine W.cast (m' := m6) (l' := hcells b23 [_, _, _] 27 :: hownT 39 1 encU (.slice none 0 0) (([] : List (BitVec 32))) :: hownT 39 1 encU (.slice none 0 0) (([] : List (BitVec 32))) :: hownT 28 1 encI (.slice none 0 0) (([] : List Int)) :: hcells b13 [_, _, _] 27 :: l) rfl rfl ?_
    refine W.end ?_
    refine NX.sub (env' := [(0, _), (1, _), (2, _), (3, _), (9, _), (10, _), (11, _), (12, _)]) ⟨rfl, rfl, rfl, rfl, rfl, rfl, rfl, rfl, trivial⟩ ?_
    refine NX.then ?_
    refine Tr.seq ?_
    refine Tr.seq ?_
    refine Tr.region_f (fun _ => false) ?_
    refine W.q rfl rfl rfl rfl (by decide) (Yd.mv rfl (.t rfl)) ?_
    refine W.q rfl rfl rfl rfl (by decide) (Yd.eql rfl (.t rfl) .c) ?_
    refine W.end ?_
    refine NX.sub (env' := [(0, _), (1, _), (2, _), (3, _), (9, _), (10, _), (11, _), (12, _), (37, _)]) ⟨rfl, rfl, rfl, rfl, rfl, rfl, rfl, rfl, rfl, trivial⟩ ?_
    refine NX.then ?_
    refine Tr.join (S := fun env x => ∃ c25 : List Int, ∃ c28 : List (BitVec 32), ∃ c31 : List (BitVec 32), ∃ m34 : Snap, ∃ u26 : Value, ∃ u29 : Value, ∃ u32 : Value, Sle m6 m34 ∧ RS rI m34 u26 c25 ∧ RS rU m34 u29 c28 ∧ RS rU m34 u32 c31 ∧ env = [(9, bp b13 0), (10, .int .i64 r4.2), (11, .int .i64 x_17), (12, bp b23 0)] ∧ x = ⟨m34, hcells b23 [u26, u29, u32] 27 :: hcells b13 [u7, u9, u11] 27 :: l⟩ ∧ syllogistlaw_WallPlays_k35 r4 x_17 c25 c28 c31 = some r) ?_ (fun hk36 => ?_)
    · rintro _ _ ⟨c25, c28, c31, m34, u26, u29, u32, hsm34, hu27, hu30, hu33, rfl, rfl, hr⟩
      unfold syllogistlaw_WallPlays_k35 at hr
      try dsimp only at hr
      have hfirm_1 := hfirm_1.mono hsm34
      have hclass_2 := hclass_2.mono hsm34
      have hscript_3 := hscript_3.mono hsm34
      have hu8 := hu8.mono hsm34
      have hu10 := hu10.mono hsm34
      have hu12 := hu12.mono hsm34
      refine NX.then ?_
      refine Tr.seq ?_
      obtain ⟨ha37, hr⟩ := guard_some hr
      obtain ⟨ha38, hr⟩ := guard_some hr
      obtain ⟨ha39, hr⟩ := guard_some hr
      refine Tr.region_f (fun _ => false) ?_
      refine W.q rfl rfl rfl rfl (by decide) (Yd.mv rfl (.t rfl)) ?_
      refine W.q rfl rfl rfl rfl (by decide) (Yd.mv rfl (.t rfl)) ?_
      refine W.q rfl rfl rfl rfl (by decide) (Yd.eql rfl (.t rfl) (.t rfl)) ?_
      refine W.q rfl rfl rfl rfl (by decide) (Yd.mv rfl (.t rfl)) ?_
      refine W.g rfl rfl rfl rfl rfl (.t rfl _) rfl (by decide) (fun hG => Yd.fldB rfl Try.underlying27 rfl SZ24 rfl (.t rfl)) ?_
      refine W.g rfl rfl rfl rfl rfl (.t rfl _) rfl (by decide) (fun hG => Yd.ldB (pos := 1) rfl rfl rfl ON24 (.g rfl hG)) ?_
      refine W.g rfl rfl rfl rfl rfl (.t rfl _) rfl (by decide) (fun hG => Yd.fldB rfl Try.underlying27 rfl SZ24 rfl (.t rfl)) ?_
      refine W.g rfl rfl rfl rfl rfl (.t rfl _) rfl (by decide) (fun hG => Yd.ldB (pos := 0) rfl rfl rfl ON24 (.g rfl hG)) ?_
      refine W.g rfl rfl rfl rfl rfl (.t rfl _) rfl (by decide) (fun hG => Yd.call (v := .bool ((((syllogistref_Codes r4.1.codes c25).getD false)))) rfl Try.func7 rfl rfl (.cons (.g rfl hG) (.cons (.g rfl hG) .nil)) (fun x' hx w hw => syllogistref_Codes_ok w0 x'.m x'.l _ _ (hu8.mono hx.1) _ _ (hu27.mono hx.1) _ (gd_get (d := false) ha37 hG) w hw)) ?_
      refine W.q rfl rfl rfl rfl (by decide) (Yd.and rfl (.t rfl) .c rfl rfl) ?_
      refine W.q rfl rfl rfl rfl (by decide) (Yd.mv rfl (.t rfl)) ?_
      refine W.g rfl rfl rfl rfl rfl (.t rfl _) rfl (by decide) (fun hG => Yd.fldB rfl Try.underlying27 rfl SZ25 rfl (.t rfl)) ?_
      refine W.g rfl rfl rfl rfl rfl (.t rfl _) rfl (by decide) (fun hG => Yd.ldB (pos := 1) rfl rfl rfl ON25 (.g rfl hG)) ?_
      refine W.g rfl rfl rfl rfl rfl (.t rfl _) rfl (by decide) (fun hG => Yd.fldB rfl Try.underlying27 rfl SZ25 rfl (.t rfl)) ?_
      refine W.g rfl rfl rfl rfl rfl (.t rfl _) rfl (by decide) (fun hG => Yd.ldB (pos := 0) rfl rfl rfl ON25 (.g rfl hG)) ?_
      refine W.g rfl rfl rfl rfl rfl (.t rfl _) rfl (by decide) (fun hG => Yd.call (v := .bool ((((syllogistref_Words r4.1.read c28).getD false)))) rfl Try.func8 rfl rfl (.cons (.g rfl hG) (.cons (.g rfl hG) .nil)) (fun x' hx w hw => syllogistref_Words_ok w0 x'.m x'.l _ _ (hu10.mono hx.1) _ _ (hu30.mono hx.1) _ (gd_get (d := false) ha38 hG) w hw)) ?_
      refine W.q rfl rfl rfl rfl (by decide) (Yd.and rfl (.t rfl) .c rfl rfl) ?_
      refine W.q rfl rfl rfl rfl (by decide) (Yd.mv rfl (.t rfl)) ?_
      refine W.g rfl rfl rfl rfl rfl (.t rfl _) rfl (by decide) (fun hG => Yd.fldB rfl Try.underlying27 rfl SZ25 rfl (.t rfl)) ?_
      refine W.g rfl rfl rfl rfl rfl (.t rfl _) rfl (by decide) (fun hG => Yd.ldB (pos := 1) rfl rfl rfl ON25 (.g rfl hG)) ?_
      refine W.g rfl rfl rfl rfl rfl (.t rfl _) rfl (by decide) (fun hG => Yd.fldB rfl Try.underlying27 rfl SZ25 rfl (.t rfl)) ?_
      refine W.g rfl rfl rfl rfl rfl (.t rfl _) rfl (by decide) (fun hG => Yd.ldB (pos := 0) rfl rfl rfl ON25 (.g rfl hG)) ?_
      refine W.g rfl rfl rfl rfl rfl (.t rfl _) rfl (by decide) (fun hG => Yd.call (v := .bool ((((syllogistref_Words r4.1.src c31).getD false)))) rfl Try.func8 rfl rfl (.cons (.g rfl hG) (.cons (.g rfl hG) .nil)) (fun x' hx w hw => syllogistref_Words_ok w0 x'.m x'.l _ _ (hu12.mono hx.1) _ _ (hu33.mono hx.1) _ (gd_get (d := false) ha39 hG) w hw)) ?_
      refine W.q rfl rfl rfl rfl (by decide) (Yd.and rfl (.t rfl) .c rfl rfl) ?_
      refine W.q rfl rfl rfl rfl (by decide) (Yd.as rfl (.t rfl)) ?_
      refine W.end ?_
      refine NX.sub (env' := [(8, _)]) ⟨rfl, trivial⟩ ?_
      refine NX.drop (l' := l) (.cons _ (.cons _ (.refl _))) ?_
      refine NX.then ?_
      refine Tr.ret' ?_
      refine res1 rfl rfl ?_
      intro w hc
      cases hr
      exact ⟨rfl, (cX_le (x := ⟨m, _⟩) ⟨(hsm6.trans hsm34), [], rfl⟩ hc)⟩
    refine Tr.cond (.t rfl) (fun hb => ?_) (fun hb => ?_)
    · have hr := cond_t hb hr
      obtain ⟨r40, hr41, hr⟩ := bind_some hr
      refine Tr.region_f (fun i => Nat.beq i 4 || Nat.beq i 5) ?_
      refine W.q rfl rfl rfl rfl (by decide) (Yd.mv rfl (.t rfl)) ?_
      refine W.q rfl rfl rfl rfl (by decide) (Yd.mv rfl (.t rfl)) ?_
      refine W.q rfl rfl rfl rfl (by decide) (Yd.mv rfl (.t rfl)) ?_
      refine W.q rfl rfl rfl rfl (by decide) (Yd.mv rfl (.t rfl)) ?_
      refine W.e rfl rfl rfl rfl (by decide) (Ef.call (R := fun z x' => ∃ u43 : Value, ∃ u45 : Value, ∃ u47 : Value, ∃ m42 : Snap, z = .agg #[u43, u45, u47] ∧ x' = ⟨m42, hcells b23 [(.slice none 0 0), (.slice none 0 0), (.slice none 0 0)] 27 :: hownT 39 1 encU (.slice none 0 0) (([] : List (BitVec 32))) :: hownT 39 1 encU (.slice none 0 0) (([] : List (BitVec 32))) :: hownT 28 1 encI (.slice none 0 0) (([] : List Int)) :: hcells b13 [u7, u9, u11] 27 :: l⟩ ∧ Sle m6 m42 ∧ RS rI m42 u43 r40.codes ∧ RS rU m42 u45 r40.read ∧ RS rU m42 u47 r40.src) rfl Try.func6 rfl rfl (.cons (.t rfl) (.cons (.t rfl) (.cons (.t rfl) (.cons (.t rfl) .nil)))) (fun w hw => (syllogistref_Wall_ok w0 _ _ who_0 _ _ hfirm_1 _ _ hclass_2 _ _ hscript_3 _ hr41 w hw).mono fun e w' ⟨u43, u45, u47, m42, he, hm', hu44, hu46, hu48, hc'⟩ => ⟨_, _, he, ⟨u43, u45, u47, m42, rfl, rfl, hm', hu44, hu46, hu48⟩, hc'⟩)) ?_
      rintro _ _ ⟨u43, u45, u47, m42, rfl, rfl, hsm42, hu44, hu46, hu48⟩
      have hfirm_1 := hfirm_1.mono hsm42
      have hclass_2 := hclass_2.mono hsm42
      have hscript_3 := hscript_3.mono hsm42
      have hu8 := hu8.mono hsm42
      have hu10 := hu10.mono hsm42
      have hu12 := hu12.mono hsm42
      refine ⟨.inl rfl, ?_⟩
      refine W.cast (m' := m42) (l' := hcells b23 [_, _, _] 27 :: hownT 39 1 encU (.slice none 0 0) (([] : List (BitVec 32))) :: hownT 39 1 encU (.slice none 0 0) (([] : List (BitVec 32))) :: hownT 28 1 encI (.slice none 0 0) (([] : List Int)) :: hcells b13 [_, _, _] 27 :: l) rfl rfl ?_
      refine W.s rfl rfl rfl rfl (Ef.stBs (pos := 0) (us := [u43, u45, u47]) (cs' := [_, _, _]) (.cons (On.ro hu44) (.cons (On.ro hu46) (.cons (On.ro hu48) .nil))) rfl rfl (.t rfl) (.t rfl) SZ27 rfl rfl (Nat.le_of_ble_eq_true rfl) rfl) ?_
      rintro _ _ ⟨rfl, rfl⟩
      refine ⟨.inl rfl, ?_⟩
      refine W.cast (m' := m42) (l' := hcells b23 [_, _, _] 27 :: hownT 39 1 encU (.slice none 0 0) (([] : List (BitVec 32))) :: hownT 39 1 encU (.slice none 0 0) (([] : List (BitVec 32))) :: hownT 28 1 encI (.slice none 0 0) (([] : List Int)) :: hcells b13 [_, _, _] 27 :: l) rfl rfl ?_
      refine W.end ?_
      refine NX.sub (env' := [(9, _), (10, _), (11, _), (12, _)]) ⟨rfl, rfl, rfl, rfl, trivial⟩ ?_
      refine NX.drop (l' := hcells b23 [_, _, _] 27 :: hcells b13 [_, _, _] 27 :: l) (.cons_cons _ (.cons _ (.cons _ (.cons _ (.cons_cons _ (.refl _)))))) ?_
      refine NX.sub (env' := [(9, _), (10, _), (11, _), (12, _)]) ⟨rfl, rfl, rfl, rfl, trivial⟩ ?_
      exact hk36 _ _ ⟨_, _, _, _, _, _, _, hsm42, hu44, hu46, hu48, rfl, rfl, hr⟩
    · have hr := cond_f hb hr
      refine Tr.skip' ?_
      refine NX.freezeT (enc := encI) (n := 1) (pos := 3) (xs := ([] : List Int)) (fun _ => rfl) rfl (fun m49 hsm49 hu50 => ?_)
      have hfirm_1 := hfirm_1.mono hsm49
      have hclass_2 := hclass_2.mono hsm49
      have hscript_3 := hscript_3.mono hsm49
      have hu8 := hu8.mono hsm49
      have hu10 := hu10.mono hsm49
      have hu12 := hu12.mono hsm49
      refine NX.cast (m' := m49) (l' := hcells b23 [_, _, _] 27 :: hownT 39 1 encU (.slice none 0 0) (([] : List (BitVec 32))) :: hownT 39 1 encU (.slice none 0 0) (([] : List (BitVec 32))) :: hcells b13 [_, _, _] 27 :: l) rfl rfl ?_
      refine NX.freezeT (enc := encU) (n := 1) (pos := 2) (xs := ([] : List (BitVec 32))) (fun _ => rfl) rfl (fun m51 hsm51 hu52 => ?_)
      have hfirm_1 := hfirm_1.mono hsm51
      have hclass_2 := hclass_2.mono hsm51
      have hscript_3 := hscript_3.mono hsm51
      have hu8 := hu8.mono hsm51
      have hu10 := hu10.mono hsm51
      have hu12 := hu12.mono hsm51
      have hu50 := hu50.mono hsm51
      refine NX.cast (m' := m51) (l' := hcells b23 [_, _, _] 27 :: hownT 39 1 encU (.slice none 0 0) (([] : List (BitVec 32))) :: hcells b13 [_, _, _] 27 :: l) rfl rfl ?_
      refine NX.freezeT (enc := encU) (n := 1) (pos := 1) (xs := ([] : List (BitVec 32))) (fun _ => rfl) rfl (fun m53 hsm53 hu54 => ?_)
      have hfirm_1 := hfirm_1.mono hsm53
      have hclass_2 := hclass_2.mono hsm53
      have hscript_3 := hscript_3.mono hsm53
      have hu8 := hu8.mono hsm53
      have hu10 := hu10.mono hsm53
      have hu12 := hu12.mono hsm53
      have hu50 := hu50.mono hsm53
      have hu52 := hu52.mono hsm53
      refine NX.cast (m' := m53) (l' := hcells b23 [_, _, _] 27 :: hcells b13 [_, _, _] 27 :: l) rfl rfl ?_
      refine NX.sub (env' := [(9, _), (10, _), (11, _), (12, _)]) ⟨rfl, rfl, rfl, rfl, trivial⟩ ?_
      exact hk36 _ _ ⟨_, _, _, _, _, _, _, ((hsm49.trans hsm51).trans hsm53), hu50, hu52, hu54, rfl, rfl, hr⟩
  refine Tr.cond (.t rfl) (fun hb => ?_) (fun hb => ?_)
  · have hr := cond_t hb hr
    refine Tr.region_f (fun _ => false) ?_
    refine W.q rfl rfl rfl rfl (by decide) (Yd.as rfl .c) ?_
    refine W.end ?_
    refine NX.sub (env' := [(0, _), (1, _), (2, _), (3, _), (9, _), (10, _), (11, _)]) ⟨rfl, rfl, rfl, rfl, rfl, rfl, rfl, trivial⟩ ?_
    refine NX.sub (env' := [(0, _), (1, _), (2, _), (3, _), (9, _), (10, _), (11, _)]) ⟨rfl, rfl, rfl, rfl, rfl, rfl, rfl, trivial⟩ ?_
    exact hk19 _ _ ⟨_, rfl, rfl, hr⟩
  · have hr := cond_f hb hr
    refine Tr.skip' ?_
    refine NX.sub (env' := [(0, _), (1, _), (2, _), (3, _), (9, _), (10, _), (11, _)]) ⟨rfl, rfl, rfl, rfl, rfl, rfl, rfl, trivial⟩ ?_
    exact hk19 _ _ ⟨_, rfl, rfl, hr⟩
end Go.Proofs.Ytajgcmeegencoaa.Sy
