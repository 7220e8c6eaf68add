/- Functions of the program as plain functions, and that the translation computes them; the conditions stand in each theorem. Printed by an own program. -/
import Derived.Test.YtafaimklnnpkiaaG4a
import Derived.Test.YtafaimklnnpkiaaProg
namespace Go.Proofs.Ytafaimklnnpkiaa.Sy
open Go
set_option linter.unusedVariables false
def syllogistref_Grant_k42 (l29 : List Int) (c31 : Int) (l40 : List Edge) : Option (Graph) :=
  some (({ codes := l29, n := c31, edges := l40 } : Graph))

def syllogistref_Grant_k61 (nx51 : ((List Edge) → Option (Graph))) (l59 : List Edge) : Option (Graph) :=
  nx51 l59

def syllogistref_Grant_b65 (l27 : List Edge) (a_49 : Int) (b_64 : Int) (l57 : List Edge) (nx66 : (List Edge) → Option (Graph)) : Option (Graph) :=
  (syllogistref_Over l27 a_49 b_64).bind fun r68 =>
  (bif (r68 != 0#32) then
  (syllogistref_Over l27 a_49 b_64).bind fun r70 =>
  bif decide (l57.length + (([({ src := a_49, to := b_64, rights := r70 } : Edge)] : List Edge)).length ≤ 5864062014805) then
  nx66 (l57 ++ ([({ src := a_49, to := b_64, rights := r70 } : Edge)] : List Edge)) else none
  else
  nx66 l57)

def syllogistref_Grant_b50 (l27 : List Edge) (c31 : Int) (a_49 : Int) (l38 : List Edge) (nx51 : (List Edge) → Option (Graph)) : Option (Graph) :=
  bif decide (c31 ≤ 9223372036854775807) then
  forK (σ := (List Edge)) (fun i s nx_ => syllogistref_Grant_b65 l27 a_49 i s nx_) (fun s => syllogistref_Grant_k61 nx51 s) (c31 - (0 : Int)).toNat (0 : Int) l38 else none

def syllogistref_Grant_k32 (l27 : List Edge) (l29 : List Int) (c31 : Int) : Option (Graph) :=
  bif decide (c31 ≤ 9223372036854775807) then
  forK (σ := (List Edge)) (fun i s nx_ => syllogistref_Grant_b50 l27 c31 i s nx_) (fun s => syllogistref_Grant_k42 l29 c31 s) (c31 - (0 : Int)).toNat (0 : Int) (([] : List Edge)) else none

def syllogistref_Grant_k89 (l24 : List Int) (nx79 : (((List Edge) × (List Int) × Int) → Option (Graph))) (e_85 : Int) (l86 : List Edge) (c88 : Int) : Option (Graph) :=
  bif decide (l24.length + (([e_85] : List Int)).length ≤ 17592186044416) then
  nx79 (l86, (l24 ++ ([e_85] : List Int)), c88) else none

def syllogistref_Grant_k131 (l24 : List Int) (c26 : Int) (nx79 : (((List Edge) × (List Int) × Int) → Option (Graph))) (l129 : List Edge) : Option (Graph) :=
  syllogistref_Grant_k89 l24 nx79 ((0 : Int)) l129 c26

def syllogistref_Grant_b133 (l24 : List Int) (c26 : Int) (nx79 : (((List Edge) × (List Int) × Int) → Option (Graph))) (y81 : Deed) (i_126 : Int) (l127 : List Edge) (nx134 : (Int × (List Edge)) → Option (Graph)) : Option (Graph) :=
  (bif (decide (i_126 < (l127.length : Int))) then
  (geti l127 i_126).bind fun y136 =>
  (bif ((y136.src == y81.by_) && (y136.to == y81.to)) then
  (geti l127 i_126).bind fun y138 =>
  nx134 ((w64 (i_126 + (1 : Int))), (l127.set i_126.toNat (({ src := y138.src, to := y138.to, rights := (y138.rights &&& ~~~y81.label.parts) } : Edge))))
  else
  nx134 ((w64 (i_126 + (1 : Int))), l127))
  else
  syllogistref_Grant_k131 l24 c26 nx79 l127)

def syllogistref_Grant_b78 (script_2 : List Deed) (fuel : Nat) (t_77 : Int) (l22 : List Edge) (l24 : List Int) (c26 : Int) (nx79 : ((List Edge) × (List Int) × Int) → Option (Graph)) : Option (Graph) :=
  (geti script_2 t_77).bind fun y81 =>
  (bif ((decide (y81.kind < (1 : Int))) || (decide (y81.kind > (4 : Int)))) then
  syllogistref_Grant_k89 l24 nx79 ((6 : Int)) l22 c26
  else
  (syllogistref_Grant_c1 y81.by_ c26).bind fun r95 =>
  bif (!(((!r95) == false) && ((y81.kind != (3 : Int)) == true)) || (syllogistref_Grant_c1 y81.to c26).isSome) then
  (bif ((!r95) || ((y81.kind != (3 : Int)) && ((!(((syllogistref_Grant_c1 y81.to c26).getD false))) || (y81.to == y81.by_)))) then
  syllogistref_Grant_k89 l24 nx79 ((2 : Int)) l22 c26
  else
  bif (!(((y81.kind == (1 : Int)) || (y81.kind == (2 : Int))) == true) || (syllogistref_Grant_c1 y81.label.level c26).isSome) then
  (bif (((((y81.kind == (1 : Int)) || (y81.kind == (2 : Int))) && (!(((syllogistref_Grant_c1 y81.label.level c26).getD false)))) || ((y81.kind == (1 : Int)) && (y81.label.level == y81.by_))) || ((y81.kind == (2 : Int)) && (y81.label.level == y81.to))) then
  syllogistref_Grant_k89 l24 nx79 ((2 : Int)) l22 c26
  else
  (bif (y81.kind == (1 : Int)) then
  (syllogistref_Over l22 y81.by_ y81.to).bind fun r99 =>
  (syllogistref_In (1#32) r99).bind fun r101 =>
  bif (!((!r101) == false) || (syllogistref_Over l22 y81.to y81.label.level).isSome) then
  bif (!((!r101) == false) || (syllogistref_In y81.label.parts ((((syllogistref_Over l22 y81.to y81.label.level).getD (0#32))))).isSome) then
  (bif ((!r101) || (!(((syllogistref_In y81.label.parts ((((syllogistref_Over l22 y81.to y81.label.level).getD (0#32))))).getD false)))) then
  syllogistref_Grant_k89 l24 nx79 ((7 : Int)) l22 c26
  else
  bif decide (l22.length + (([({ src := y81.by_, to := y81.label.level, rights := y81.label.parts } : Edge)] : List Edge)).length ≤ 5864062014805) then
  syllogistref_Grant_k89 l24 nx79 ((0 : Int)) ((l22 ++ ([({ src := y81.by_, to := y81.label.level, rights := y81.label.parts } : Edge)] : List Edge))) c26 else none) else none else none
  else
  (bif (y81.kind == (2 : Int)) then
  (syllogistref_Over l22 y81.by_ y81.to).bind fun r109 =>
  (syllogistref_In (2#32) r109).bind fun r111 =>
  bif (!((!r111) == false) || (syllogistref_Over l22 y81.by_ y81.label.level).isSome) then
  bif (!((!r111) == false) || (syllogistref_In y81.label.parts ((((syllogistref_Over l22 y81.by_ y81.label.level).getD (0#32))))).isSome) then
  (bif ((!r111) || (!(((syllogistref_In y81.label.parts ((((syllogistref_Over l22 y81.by_ y81.label.level).getD (0#32))))).getD false)))) then
  syllogistref_Grant_k89 l24 nx79 ((7 : Int)) l22 c26
  else
  bif decide (l22.length + (([({ src := y81.to, to := y81.label.level, rights := y81.label.parts } : Edge)] : List Edge)).length ≤ 5864062014805) then
  syllogistref_Grant_k89 l24 nx79 ((0 : Int)) ((l22 ++ ([({ src := y81.to, to := y81.label.level, rights := y81.label.parts } : Edge)] : List Edge))) c26 else none) else none else none
  else
  (bif (y81.kind == (3 : Int)) then
  (bif (decide (c26 ≥ (14 : Int))) then
  syllogistref_Grant_k89 l24 nx79 ((1 : Int)) l22 c26
  else
  bif decide (l22.length + (([({ src := y81.by_, to := c26, rights := 3#32 } : Edge)] : List Edge)).length ≤ 5864062014805) then
  syllogistref_Grant_k89 l24 nx79 ((0 : Int)) ((l22 ++ ([({ src := y81.by_, to := c26, rights := 3#32 } : Edge)] : List Edge))) ((w64 (c26 + (1 : Int)))) else none)
  else
  whileK (σ := Int × (List Edge)) (fun s nx_ => syllogistref_Grant_b133 l24 c26 nx79 y81 s.1 s.2 nx_) fuel (((0 : Int)), l22))))) else none) else none)

def syllogistref_Grant (fuel : Nat) (n_0 : Int) (edges_1 : List Edge) (script_2 : List Deed) : Option (Graph) :=
  bif decide ((([] : List Edge)).length + edges_1.length ≤ 5864062014805) then
  forK (σ := (List Edge) × (List Int) × Int) (fun i s nx_ => syllogistref_Grant_b78 script_2 fuel i s.1 s.2.1 s.2.2 nx_) (fun s => syllogistref_Grant_k32 s.1 s.2.1 s.2.2) ((script_2.length : Int) - (0 : Int)).toNat (0 : Int) (((([] : List Edge) ++ edges_1)), (([] : List Int)), n_0) else none

set_option maxRecDepth 100000 in
set_option maxHeartbeats 4000000 in
theorem syllogistref_Grant_ok (w0 : World) (m : Snap) (l : List HI) (fuel : Nat) (n_0 : Int) (uedges_1 : Value) (edges_1 : List Edge) (hedges_1 : RS rEdge m uedges_1 edges_1) (uscript_2 : Value) (script_2 : List Deed) (hscript_2 : RS rDeed m uscript_2 script_2) (r : Graph) (hr : syllogistref_Grant fuel n_0 edges_1 script_2 = some r) (w : World) (hc : cX w0 ⟨m, l⟩ w) :
    Calls Try.prog 9 [.int .i64 n_0, uedges_1, uscript_2].toArray w fun e w' => ∃ z0 : Value, ∃ z1 : Value, ∃ m1 : Snap, e = .returned (.agg #[z0, .int .i64 r.n, z1]) ∧ Sle m m1 ∧ RS rI m1 z0 r.codes ∧ RS rEdge m1 z1 r.edges ∧ cX w0 ⟨m1, l⟩ w' := by
  unfold syllogistref_Grant at hr
  refine calls_of_Tr (N := 247) Try.func9 rfl hc rfl (Nat.le_of_ble_eq_true rfl) ?_
  refine Tr.seq ?_
  refine Tr.addnil 27 1 ?_
  refine Tr.cast (m' := m) (l' := hownT 27 1 encI (.slice none 0 0) (([] : List Int)) :: l) rfl rfl ?_
  refine Tr.addnil 68 3 ?_
  refine Tr.cast (m' := m) (l' := hownT 68 3 Edge.enc (.slice none 0 0) (([] : List Edge)) :: hownT 27 1 encI (.slice none 0 0) (([] : List Int)) :: l) rfl rfl ?_
  refine Tr.region_f (fun i => Nat.beq i 0 || Nat.beq i 1) ?_
  refine W.e rfl rfl rfl rfl (by decide) (Ef.bx rfl (.t rfl) rfl) ?_
  rintro _ _ ⟨b3, rfl, rfl⟩
  refine ⟨.inl rfl, ?_⟩
  refine W.cast (m' := m) (l' := hcells b3 [_] 3 :: hownT 68 3 Edge.enc (.slice none 0 0) (([] : List Edge)) :: hownT 27 1 encI (.slice none 0 0) (([] : List Int)) :: l) rfl rfl ?_
  refine W.e rfl rfl rfl rfl (by decide) (Ef.al rfl ZR26 rfl) ?_
  rintro _ _ ⟨b5, rfl, rfl⟩
  refine ⟨.inl rfl, ?_⟩
  refine W.cast (m' := m) (l' := hcells b5 [_, _, _] 26 :: hcells b3 [_] 3 :: hownT 68 3 Edge.enc (.slice none 0 0) (([] : List Edge)) :: hownT 27 1 encI (.slice none 0 0) (([] : List Int)) :: l) rfl rfl ?_
  refine W.end ?_
  refine NX.sub (env' := [(1, _), (2, _), (3, _), (6, _)]) ⟨rfl, rfl, rfl, rfl, trivial⟩ ?_
  refine NX.then ?_
  refine Tr.seq ?_
  refine Tr.addnil 27 1 ?_
  refine Tr.cast (m' := m) (l' := hownT 27 1 encI (.slice none 0 0) (([] : List Int)) :: hcells b5 [(.slice none 0 0), .int .i64 ((0 : Int)), (.slice none 0 0)] 26 :: hcells b3 [.int .i64 n_0] 3 :: hownT 68 3 Edge.enc (.slice none 0 0) (([] : List Edge)) :: hownT 27 1 encI (.slice none 0 0) (([] : List Int)) :: l) rfl rfl ?_
  refine Tr.addnil 68 3 ?_
  refine Tr.cast (m' := m) (l' := hownT 68 3 Edge.enc (.slice none 0 0) (([] : List Edge)) :: hownT 27 1 encI (.slice none 0 0) (([] : List Int)) :: hcells b5 [(.slice none 0 0), .int .i64 ((0 : Int)), (.slice none 0 0)] 26 :: hcells b3 [.int .i64 n_0] 3 :: hownT 68 3 Edge.enc (.slice none 0 0) (([] : List Edge)) :: hownT 27 1 encI (.slice none 0 0) (([] : List Int)) :: l) rfl rfl ?_
  refine Tr.region_f (fun i => Nat.beq i 1 || Nat.beq i 2) ?_
  refine W.q rfl rfl rfl rfl (by decide) (Yd.bld (cells := [.slice none 0 0, .int .i64 ((0 : Int)), .slice none 0 0]) rfl ZI26 PL26 .nil rfl) ?_
  refine W.e rfl rfl rfl rfl (by decide) (Ef.al rfl ZR26 rfl) ?_
  rintro _ _ ⟨b9, rfl, rfl⟩
  refine ⟨.inl rfl, ?_⟩
  refine W.cast (m' := m) (l' := hcells b9 [_, _, _] 26 :: hownT 68 3 Edge.enc (.slice none 0 0) (([] : List Edge)) :: hownT 27 1 encI (.slice none 0 0) (([] : List Int)) :: hcells b5 [_, _, _] 26 :: hcells b3 [_] 3 :: hownT 68 3 Edge.enc (.slice none 0 0) (([] : List Edge)) :: hownT 27 1 encI (.slice none 0 0) (([] : List Int)) :: l) rfl rfl ?_
  refine W.s rfl rfl rfl rfl (Ef.stB (pos := 0) (us := [_, _, _]) (cs' := [_, _, _]) rfl rfl (.t rfl) (.t rfl) SZ26 rfl rfl rfl (Nat.le_of_ble_eq_true rfl) rfl) ?_
  rintro _ _ ⟨rfl, rfl⟩
  refine ⟨.inl rfl, ?_⟩
  refine W.cast (m' := m) (l' := hcells b9 [_, _, _] 26 :: hownT 68 3 Edge.enc (.slice none 0 0) (([] : List Edge)) :: hownT 27 1 encI (.slice none 0 0) (([] : List Int)) :: hcells b5 [_, _, _] 26 :: hcells b3 [_] 3 :: hownT 68 3 Edge.enc (.slice none 0 0) (([] : List Edge)) :: hownT 27 1 encI (.slice none 0 0) (([] : List Int)) :: l) rfl rfl ?_
  refine W.end ?_
  refine NX.sub (env' := [(1, _), (2, _), (3, _), (6, _), (7, _)]) ⟨rfl, rfl, rfl, rfl, rfl, trivial⟩ ?_
  refine NX.then ?_
  refine Tr.seq ?_
  obtain ⟨hq14, hr⟩ := guard_some hr; replace hq14 := of_decide_eq_true hq14
  refine Tr.region_f (fun i => Nat.beq i 0 || Nat.beq i 2) ?_
  refine W.e rfl rfl rfl rfl (by decide) (Ef.bsT (enc := Edge.enc) (vs := []) (ys := []) (fun _ => rfl) IF68 rfl Try.underlying22 (by decide) rfl .nil rfl rfl (by decide)) ?_
  rintro v11 _ rfl
  refine ⟨.inl rfl, ?_⟩
  refine W.cast (m' := m) (l' := hownT 68 3 Edge.enc v11 _ :: hcells b9 [_, _, _] 26 :: hownT 68 3 Edge.enc (.slice none 0 0) (([] : List Edge)) :: hownT 27 1 encI (.slice none 0 0) (([] : List Int)) :: hcells b5 [_, _, _] 26 :: hcells b3 [_] 3 :: hownT 68 3 Edge.enc (.slice none 0 0) (([] : List Edge)) :: hownT 27 1 encI (.slice none 0 0) (([] : List Int)) :: l) rfl rfl ?_
  refine W.q rfl rfl rfl rfl (by decide) (Yd.mv rfl (.t rfl)) ?_
  refine W.e rfl rfl rfl rfl (by decide) (Ef.apI (pos := 0) (enc := Edge.enc) (xs := ([] : List Edge)) (ys := edges_1) (fun _ => rfl) IF68 rfl rfl Try.underlying22 rfl (by decide) (.t rfl) (.t rfl) (Src.rs (by decide) (.refl _) hedges_1) (fun _ => rfl) (by omega) (by omega)) ?_
  rintro v13 _ rfl
  refine ⟨.inl rfl, ?_⟩
  refine W.cast (m' := m) (l' := hownT 68 3 Edge.enc v13 _ :: hcells b9 [_, _, _] 26 :: hownT 68 3 Edge.enc (.slice none 0 0) (([] : List Edge)) :: hownT 27 1 encI (.slice none 0 0) (([] : List Int)) :: hcells b5 [_, _, _] 26 :: hcells b3 [_] 3 :: hownT 68 3 Edge.enc (.slice none 0 0) (([] : List Edge)) :: hownT 27 1 encI (.slice none 0 0) (([] : List Int)) :: l) rfl rfl ?_
  refine W.q rfl rfl rfl rfl (by decide) (Yd.as rfl (.t rfl)) ?_
  refine W.end ?_
  refine NX.sub (env' := [(2, _), (3, _), (6, _), (7, _), (8, _)]) ⟨rfl, rfl, rfl, rfl, rfl, trivial⟩ ?_
  refine NX.then ?_
  refine Tr.seq ?_
  refine Tr.region_f (fun _ => false) ?_
  refine W.q rfl rfl rfl rfl (by decide) (Yd.mkf rfl (.cons (.t rfl) .nil)) ?_
  refine W.q rfl rfl rfl rfl (by decide) (Yd.as rfl (.t rfl)) ?_
  refine W.end ?_
  refine NX.sub (env' := [(2, _), (3, _), (6, _), (7, _), (8, _), (9, _)]) ⟨rfl, rfl, rfl, rfl, rfl, rfl, trivial⟩ ?_
  refine NX.then ?_
  refine Tr.seq ?_
  refine Tr.seq ?_
  refine Tr.region_f (fun _ => false) ?_
  refine W.q rfl rfl rfl rfl (by decide) (Yd.mv rfl (.t rfl)) ?_
  refine W.q rfl rfl rfl rfl (by decide) (Yd.lenR hscript_2 rfl Try.underlying23 (.t rfl)) ?_
  refine W.q rfl rfl rfl rfl (by decide) (Yd.mv rfl .c) ?_
  refine W.end ?_
  refine NX.sub (env' := [(3, _), (6, _), (7, _), (8, _), (9, _), (23, _), (24, _), (25, _)]) ⟨rfl, rfl, rfl, rfl, rfl, rfl, rfl, rfl, trivial⟩ ?_
  refine NX.then ?_
  refine Tr.join (S := fun env x => ∃ l27 : List Edge, ∃ l29 : List Int, ∃ c31 : Int, ∃ v28 : Value, ∃ v30 : Value, env = [(3, bp b3 0), (6, bp b5 0), (7, bp b9 0), (8, v28)] ∧ x = ⟨m, hownT 68 3 Edge.enc v28 l27 :: hcells b9 [v30, .int .i64 ((0 : Int)), (.slice none 0 0)] 26 :: hownT 68 3 Edge.enc (.slice none 0 0) (([] : List Edge)) :: hownT 27 1 encI v30 l29 :: hcells b5 [(.slice none 0 0), .int .i64 ((0 : Int)), (.slice none 0 0)] 26 :: hcells b3 [.int .i64 c31] 3 :: hownT 68 3 Edge.enc (.slice none 0 0) (([] : List Edge)) :: hownT 27 1 encI (.slice none 0 0) (([] : List Int)) :: l⟩ ∧ syllogistref_Grant_k32 l27 l29 c31 = some r) ?_ (fun hk33 => ?_)
  · rintro _ _ ⟨l27, l29, c31, v28, v30, rfl, rfl, hr⟩
    unfold syllogistref_Grant_k32 at hr
    try dsimp only at hr
    refine NX.then ?_
    refine Tr.seq ?_
    refine Tr.region_f (fun i => Nat.beq i 2) ?_
    refine W.q rfl rfl rfl rfl (by decide) (Yd.ldB (pos := 5) rfl rfl rfl ON3 (.t rfl)) ?_
    refine W.q rfl rfl rfl rfl (by decide) (Yd.fldB rfl Try.underlying26 rfl SZ3 rfl (.t rfl)) ?_
    refine W.s rfl rfl rfl rfl (Ef.stB (pos := 1) (us := [_]) (cs' := [_, _, _]) rfl rfl (.t rfl) (.t rfl) SZ3 rfl rfl rfl (Nat.le_of_ble_eq_true rfl) rfl) ?_
    rintro _ _ ⟨rfl, rfl⟩
    refine ⟨.inl rfl, ?_⟩
    refine W.cast (m' := m) (l' := hownT 68 3 Edge.enc v28 _ :: hcells b9 [_, _, _] 26 :: hownT 68 3 Edge.enc (.slice none 0 0) (([] : List Edge)) :: hownT 27 1 encI v30 _ :: hcells b5 [_, _, _] 26 :: hcells b3 [_] 3 :: hownT 68 3 Edge.enc (.slice none 0 0) (([] : List Edge)) :: hownT 27 1 encI (.slice none 0 0) (([] : List Int)) :: l) rfl rfl ?_
    refine W.end ?_
    refine NX.sub (env' := [(3, _), (6, _), (7, _), (8, _)]) ⟨rfl, rfl, rfl, rfl, trivial⟩ ?_
    refine NX.then ?_
    refine Tr.seq ?_
    refine Tr.seq ?_
    refine Tr.region_f (fun _ => false) ?_
    refine W.q rfl rfl rfl rfl (by decide) (Yd.as rfl .c) ?_
    refine W.end ?_
    refine NX.sub (env' := [(3, _), (6, _), (7, _), (8, _), (16, _)]) ⟨rfl, rfl, rfl, rfl, rfl, trivial⟩ ?_
    refine NX.then ?_
    refine Tr.join (S := fun env x => ∃ l40 : List Edge, ∃ v41 : Value, env = [(6, bp b5 0), (7, bp b9 0)] ∧ x = ⟨m, hcells b9 [v30, .int .i64 c31, v41] 26 :: hownT 68 3 Edge.enc v41 l40 :: hownT 27 1 encI v30 l29 :: hcells b5 [(.slice none 0 0), .int .i64 ((0 : Int)), (.slice none 0 0)] 26 :: hownT 68 3 Edge.enc (.slice none 0 0) (([] : List Edge)) :: hownT 27 1 encI (.slice none 0 0) (([] : List Int)) :: l⟩ ∧ syllogistref_Grant_k42 l29 c31 l40 = some r) ?_ (fun hk43 => ?_)
    · rintro _ _ ⟨l40, v41, rfl, rfl, hr⟩
      unfold syllogistref_Grant_k42 at hr
      try dsimp only at hr
      refine NX.then ?_
      refine Tr.seq ?_
      refine Tr.region_f (fun i => Nat.beq i 1) ?_
      refine W.q rfl rfl rfl rfl (by decide) (Yd.ldBs (pos := 0) (us := [_, _, _]) rfl rfl rfl rfl ON26 US26 SZ26 (.t rfl)) ?_
      refine W.s rfl rfl rfl rfl (Ef.stBs (pos := 3) (us := [v30, .int .i64 c31, v41]) (cs' := [_, _, _]) (.cons (On.own (pos := 2) rfl) (.cons (On.lit rfl) (.cons (On.own (pos := 1) rfl) .nil))) rfl rfl (.t rfl) (.t rfl) SZ26 rfl rfl (Nat.le_of_ble_eq_true rfl) rfl) ?_
      rintro _ _ ⟨rfl, rfl⟩
      refine ⟨.inl rfl, ?_⟩
      refine W.cast (m' := m) (l' := hcells b9 [_, _, _] 26 :: hownT 68 3 Edge.enc v41 _ :: hownT 27 1 encI v30 _ :: hcells b5 [_, _, _] 26 :: hownT 68 3 Edge.enc (.slice none 0 0) (([] : List Edge)) :: hownT 27 1 encI (.slice none 0 0) (([] : List Int)) :: l) rfl rfl ?_
      refine W.end ?_
      refine NX.sub (env' := [(6, _)]) ⟨rfl, trivial⟩ ?_
      refine NX.drop (l' := hownT 68 3 Edge.enc v41 _ :: hownT 27 1 encI v30 _ :: hcells b5 [_, _, _] 26 :: l) (.cons _ (.cons_cons _ (.cons_cons _ (.cons_cons _ (.cons _ (.cons _ (.refl _))))))) ?_
      refine NX.then ?_
      refine Tr.ret' ?_
      refine resV1 rfl (Rv.cs (pos := 2) rfl rfl rfl ON26 US26 SZ26) ?_
      intro w hc
      cases hr
      obtain ⟨m44, hsm44, hu45, hc⟩ := cX_freeze (enc := encI) (n := 1) (p := 1) (fun _ => rfl) hc rfl
      have hedges_1 := hedges_1.mono hsm44
      have hscript_2 := hscript_2.mono hsm44
      obtain ⟨m46, hsm46, hu47, hc⟩ := cX_freeze (enc := Edge.enc) (n := 3) (p := 0) (fun _ => rfl) hc rfl
      have hedges_1 := hedges_1.mono hsm46
      have hscript_2 := hscript_2.mono hsm46
      have hu45 := hu45.mono hsm46
      exact ⟨_, _, _, rfl, (hsm44.trans hsm46), hu45, hu47, (cX_sub (.cons _ (.refl _)) hc)⟩
    obtain ⟨hle48, hr⟩ := guard_some hr; replace hle48 := of_decide_eq_true hle48
    refine Tr.block ?_
    refine Tr.sub (env' := [(3, _), (6, _), (7, _), (8, _), (16, _)]) ⟨rfl, rfl, rfl, rfl, rfl, trivial⟩ ?_
    refine Tr.loop (S := fun n (z : Int × (List Edge)) env x => match z with | (a_49, l38) => ∃ v39 : Value, env = [(3, bp b3 0), (6, bp b5 0), (7, bp b9 0), (8, v28), (16, .int .i64 a_49)] ∧ x = ⟨m, hownT 68 3 Edge.enc v28 l27 :: hcells b9 [v30, .int .i64 c31, v39] 26 :: hownT 68 3 Edge.enc v39 l38 :: hownT 27 1 encI v30 l29 :: hcells b5 [(.slice none 0 0), .int .i64 ((0 : Int)), (.slice none 0 0)] 26 :: hcells b3 [.int .i64 c31] 3 :: hownT 68 3 Edge.enc (.slice none 0 0) (([] : List Edge)) :: hownT 27 1 encI (.slice none 0 0) (([] : List Int)) :: l⟩ ∧ n = (c31 - a_49).toNat ∧ 0 ≤ a_49 ∧ forK (σ := (List Edge)) (fun i s nx_ => syllogistref_Grant_b50 l27 c31 i s nx_) (fun s => syllogistref_Grant_k42 l29 c31 s) n a_49 l38 = some r) _ ((0 : Int), ([] : List Edge)) ⟨_, rfl, rfl, rfl, (by omega), hr⟩ ?_
    rintro n52 ⟨a_49, l38⟩ env x ⟨v39, rfl, rfl, hna_49, h0a_49, hr⟩
    cases n52 with
    | zero =>
      simp only [forK] at hr
      refine Tr.seq ?_
      refine Tr.seq ?_
      refine Tr.region_f (fun _ => false) ?_
      refine W.q rfl rfl rfl rfl (by decide) (Yd.mv rfl (.t rfl)) ?_
      refine W.q rfl rfl rfl rfl (by decide) (Yd.ldB (pos := 5) rfl rfl rfl ON3 (.t rfl)) ?_
      refine W.q rfl rfl rfl rfl (by decide) (Yd.lss rfl (.t rfl) (.t rfl)) ?_
      refine W.end ?_
      refine NX.sub (env' := [(3, _), (6, _), (7, _), (8, _), (16, _), (221, _)]) ⟨rfl, rfl, rfl, rfl, rfl, rfl, trivial⟩ ?_
      refine NX.then ?_
      refine Tr.cond (.t rfl) (fun hb => ?_) (fun hb => ?_)
      · exact absurd (hb.symm.trans (fr_end hna_49)) (by decide)
      ·
        refine Tr.exit' (EX.then (EX.then (EX.block ?_)))
        refine NX.sub (env' := [(6, _), (7, _)]) ⟨rfl, rfl, trivial⟩ ?_
        refine NX.drop (l' := hcells b9 [_, _, _] 26 :: hownT 68 3 Edge.enc v39 _ :: hownT 27 1 encI v30 _ :: hcells b5 [_, _, _] 26 :: hownT 68 3 Edge.enc (.slice none 0 0) (([] : List Edge)) :: hownT 27 1 encI (.slice none 0 0) (([] : List Int)) :: l) (.cons _ (.cons_cons _ (.cons_cons _ (.cons_cons _ (.cons_cons _ (.cons _ (.cons_cons _ (.cons_cons _ (.refl _))))))))) ?_
        exact hk43 _ _ ⟨_, _, rfl, rfl, hr⟩
    | succ n52 =>
      obtain ⟨nx51, hnx51, hr⟩ := forK_succ hr
      try dsimp only at hr
      unfold syllogistref_Grant_b50 at hr
      try dsimp only at hr
      have hlta_49 := fr_bnd hna_49
      refine Tr.seq ?_
      refine Tr.seq ?_
      refine Tr.region_f (fun _ => false) ?_
      refine W.q rfl rfl rfl rfl (by decide) (Yd.mv rfl (.t rfl)) ?_
      refine W.q rfl rfl rfl rfl (by decide) (Yd.ldB (pos := 5) rfl rfl rfl ON3 (.t rfl)) ?_
      refine W.q rfl rfl rfl rfl (by decide) (Yd.lss rfl (.t rfl) (.t rfl)) ?_
      refine W.end ?_
      refine NX.sub (env' := [(3, _), (6, _), (7, _), (8, _), (16, _), (221, _)]) ⟨rfl, rfl, rfl, rfl, rfl, rfl, trivial⟩ ?_
      refine NX.then ?_
      refine Tr.cond (.t rfl) (fun hb => ?_) (fun hb => ?_)
      rotate_left
      · exact absurd (hb.symm.trans (fr_go hna_49)) (by decide)
      ·
        refine Tr.skip' ?_
        refine NX.then ?_
        refine Tr.seq ?_
        refine Tr.block ?_
        refine Tr.seq ?_
        refine Tr.region_f (fun _ => false) ?_
        refine W.q rfl rfl rfl rfl (by decide) (Yd.as rfl .c) ?_
        refine W.end ?_
        refine NX.sub (env' := [(3, _), (6, _), (7, _), (8, _), (16, _), (17, _)]) ⟨rfl, rfl, rfl, rfl, rfl, rfl, trivial⟩ ?_
        refine NX.then ?_
        refine Tr.join (S := fun env x => ∃ l59 : List Edge, ∃ v60 : Value, env = [(3, bp b3 0), (6, bp b5 0), (7, bp b9 0), (8, v28), (16, .int .i64 a_49)] ∧ x = ⟨m, hownT 68 3 Edge.enc v28 l27 :: hcells b9 [v30, .int .i64 c31, v60] 26 :: hownT 68 3 Edge.enc v60 l59 :: hownT 27 1 encI v30 l29 :: hcells b5 [(.slice none 0 0), .int .i64 ((0 : Int)), (.slice none 0 0)] 26 :: hcells b3 [.int .i64 c31] 3 :: hownT 68 3 Edge.enc (.slice none 0 0) (([] : List Edge)) :: hownT 27 1 encI (.slice none 0 0) (([] : List Int)) :: l⟩ ∧ syllogistref_Grant_k61 nx51 l59 = some r) ?_ (fun hk62 => ?_)
        · rintro _ _ ⟨l59, v60, rfl, rfl, hr⟩
          unfold syllogistref_Grant_k61 at hr
          try dsimp only at hr
          refine NX.block ?_
          refine NX.then ?_
          refine Tr.region_f (fun _ => false) ?_
          refine W.q rfl rfl rfl rfl (by decide) (Yd.mv rfl (.t rfl)) ?_
          refine W.q rfl rfl rfl rfl (by decide) (Yd.add rfl (.t rfl) .c) ?_
          refine W.q rfl rfl rfl rfl (by decide) (Yd.as rfl (.t rfl)) ?_
          refine W.end ?_
          refine NX.sub (env' := [(3, _), (6, _), (7, _), (8, _), (16, _)]) ⟨rfl, rfl, rfl, rfl, rfl, trivial⟩ ?_
          refine NX.sub (env' := [(3, _), (6, _), (7, _), (8, _), (16, _)]) ⟨rfl, rfl, rfl, rfl, rfl, trivial⟩ ?_
          have hw := w64_id (n := a_49 + 1) (by omega) (by omega)
          exact NX.again n52 (a_49 + 1, l59) (Nat.lt_succ_self _) ⟨_, (by rw [hw] <;> rfl), rfl, (fr_dec hna_49), (by omega), ((hnx51 _).symm.trans hr)⟩
        obtain ⟨hle63, hr⟩ := guard_some hr; replace hle63 := of_decide_eq_true hle63
        refine Tr.block ?_
        refine Tr.sub (env' := [(3, _), (6, _), (7, _), (8, _), (16, _), (17, _)]) ⟨rfl, rfl, rfl, rfl, rfl, rfl, trivial⟩ ?_
        refine Tr.loop (S := fun n (z : Int × (List Edge)) env x => match z with | (b_64, l57) => ∃ v58 : Value, env = [(3, bp b3 0), (6, bp b5 0), (7, bp b9 0), (8, v28), (16, .int .i64 a_49), (17, .int .i64 b_64)] ∧ x = ⟨m, hownT 68 3 Edge.enc v28 l27 :: hcells b9 [v30, .int .i64 c31, v58] 26 :: hownT 68 3 Edge.enc v58 l57 :: hownT 27 1 encI v30 l29 :: hcells b5 [(.slice none 0 0), .int .i64 ((0 : Int)), (.slice none 0 0)] 26 :: hcells b3 [.int .i64 c31] 3 :: hownT 68 3 Edge.enc (.slice none 0 0) (([] : List Edge)) :: hownT 27 1 encI (.slice none 0 0) (([] : List Int)) :: l⟩ ∧ n = (c31 - b_64).toNat ∧ 0 ≤ b_64 ∧ forK (σ := (List Edge)) (fun i s nx_ => syllogistref_Grant_b65 l27 a_49 i s nx_) (fun s => syllogistref_Grant_k61 nx51 s) n b_64 l57 = some r) _ ((0 : Int), l38) ⟨_, rfl, rfl, rfl, (by omega), hr⟩ ?_
        rintro n67 ⟨b_64, l57⟩ env x ⟨v58, rfl, rfl, hnb_64, h0b_64, hr⟩
        cases n67 with
        | zero =>
          simp only [forK] at hr
          refine Tr.seq ?_
          refine Tr.seq ?_
          refine Tr.region_f (fun _ => false) ?_
          refine W.q rfl rfl rfl rfl (by decide) (Yd.mv rfl (.t rfl)) ?_
          refine W.q rfl rfl rfl rfl (by decide) (Yd.ldB (pos := 5) rfl rfl rfl ON3 (.t rfl)) ?_
          refine W.q rfl rfl rfl rfl (by decide) (Yd.lss rfl (.t rfl) (.t rfl)) ?_
          refine W.end ?_
          refine NX.sub (env' := [(3, _), (6, _), (7, _), (8, _), (16, _), (17, _), (226, _)]) ⟨rfl, rfl, rfl, rfl, rfl, rfl, rfl, trivial⟩ ?_
          refine NX.then ?_
          refine Tr.cond (.t rfl) (fun hb => ?_) (fun hb => ?_)
          · exact absurd (hb.symm.trans (fr_end hnb_64)) (by decide)
          ·
            refine Tr.exit' (EX.then (EX.then (EX.block ?_)))
            refine NX.sub (env' := [(3, _), (6, _), (7, _), (8, _), (16, _)]) ⟨rfl, rfl, rfl, rfl, rfl, trivial⟩ ?_
            exact hk62 _ _ ⟨_, _, rfl, rfl, hr⟩
        | succ n67 =>
          obtain ⟨nx66, hnx66, hr⟩ := forK_succ hr
          try dsimp only at hr
          unfold syllogistref_Grant_b65 at hr
          try dsimp only at hr
          have hltb_64 := fr_bnd hnb_64
          refine Tr.seq ?_
          refine Tr.seq ?_
          refine Tr.region_f (fun _ => false) ?_
          refine W.q rfl rfl rfl rfl (by decide) (Yd.mv rfl (.t rfl)) ?_
          refine W.q rfl rfl rfl rfl (by decide) (Yd.ldB (pos := 5) rfl rfl rfl ON3 (.t rfl)) ?_
          refine W.q rfl rfl rfl rfl (by decide) (Yd.lss rfl (.t rfl) (.t rfl)) ?_
          refine W.end ?_
          refine NX.sub (env' := [(3, _), (6, _), (7, _), (8, _), (16, _), (17, _), (226, _)]) ⟨rfl, rfl, rfl, rfl, rfl, rfl, rfl, trivial⟩ ?_
          refine NX.then ?_
          refine Tr.cond (.t rfl) (fun hb => ?_) (fun hb => ?_)
          rotate_left
          · exact absurd (hb.symm.trans (fr_go hnb_64)) (by decide)
          ·
            refine Tr.skip' ?_
            refine NX.then ?_
            refine Tr.seq ?_
            refine Tr.block ?_
            refine Tr.seq ?_
            obtain ⟨r68, hr69, hr⟩ := bind_some hr
            refine Tr.region_f (fun _ => false) ?_
            refine W.q rfl rfl rfl rfl (by decide) (Yd.mv rfl (.t rfl)) ?_
            refine W.q rfl rfl rfl rfl (by decide) (Yd.mv rfl (.t rfl)) ?_
            refine W.q rfl rfl rfl rfl (by decide) (Yd.mv rfl (.t rfl)) ?_
            refine W.q rfl rfl rfl rfl (by decide) (Yd.call (v := .int .u32 (r68.toNat : Int)) rfl Try.func17 rfl rfl (.cons (.t rfl) (.cons (.t rfl) (.cons (.t rfl) .nil))) (by intro x' hx w hw; obtain ⟨p0, hp0⟩ := hx.at (p := 0) rfl; obtain ⟨m2, hm2, hc2, ⟨L2, hl1, hl2⟩, hback⟩ := cX_lend hw hp0 lone_own; have hL1 : RS rEdge m2 _ _ := RS_of_own hl1 hl2; exact (syllogistref_Over_ok w0 m2 _ _ _ hL1 a_49 b_64 _ hr69 w hc2).mono fun e w' ⟨he, hc'⟩ => ⟨he, (hback m2 _ _ w' (.refl _) hp0).2 hc'⟩)) ?_
            refine W.q rfl rfl rfl rfl (by decide) (Yd.neqU (a := r68) (b := 0#32) rfl (.t rfl) .c) ?_
            refine W.end ?_
            refine NX.sub (env' := [(3, _), (6, _), (7, _), (8, _), (16, _), (17, _), (233, _)]) ⟨rfl, rfl, rfl, rfl, rfl, rfl, rfl, trivial⟩ ?_
            refine NX.then ?_
            refine Tr.cond (.t rfl) (fun hb => ?_) (fun hb => ?_)
            · have hr := cond_t hb hr
              obtain ⟨r70, hr71, hr⟩ := bind_some hr
              obtain ⟨hq75, hr⟩ := guard_some hr; replace hq75 := of_decide_eq_true hq75
              refine Tr.region_x (fun i => Nat.beq i 9 || Nat.beq i 10 || Nat.beq i 12) (fun i => Nat.beq i 10 || Nat.beq i 12) (Ord.of [0, 1, 2, 3, 4, 5, 6, 7, 8, 9, 10, 11, 12]) FM (by kernel_rfl) ?_
              refine W.q rfl rfl rfl rfl (by decide) (Yd.fldB rfl Try.underlying26 rfl SZ22 rfl (.t rfl)) ?_
              refine W.q rfl rfl rfl rfl (by decide) (Yd.ldB (pos := 1) rfl rfl rfl ON22 (.t rfl)) ?_
              refine W.q rfl rfl rfl rfl (by decide) (Yd.mv rfl (.t rfl)) ?_
              refine W.q rfl rfl rfl rfl (by decide) (Yd.mv rfl (.t rfl)) ?_
              refine W.q rfl rfl rfl rfl (by decide) (Yd.mv rfl (.t rfl)) ?_
              refine W.q rfl rfl rfl rfl (by decide) (Yd.mv rfl (.t rfl)) ?_
              refine W.q rfl rfl rfl rfl (by decide) (Yd.mv rfl (.t rfl)) ?_
              refine W.q rfl rfl rfl rfl (by decide) (Yd.call (v := .int .u32 (r70.toNat : Int)) rfl Try.func17 rfl rfl (.cons (.t rfl) (.cons (.t rfl) (.cons (.t rfl) .nil))) (by intro x' hx w hw; obtain ⟨p0, hp0⟩ := hx.at (p := 0) rfl; obtain ⟨m2, hm2, hc2, ⟨L2, hl1, hl2⟩, hback⟩ := cX_lend hw hp0 lone_own; have hL1 : RS rEdge m2 _ _ := RS_of_own hl1 hl2; exact (syllogistref_Over_ok w0 m2 _ _ _ hL1 a_49 b_64 _ hr71 w hc2).mono fun e w' ⟨he, hc'⟩ => ⟨he, (hback m2 _ _ w' (.refl _) hp0).2 hc'⟩)) ?_
              refine W.q rfl rfl rfl rfl (by decide) (Yd.bld (cells := [.int .i64 a_49, .int .i64 b_64, .int .u32 (r70.toNat : Int)]) rfl ZI68 PL68 (.cons (.t rfl) (.cons (.t rfl) (.cons (.t rfl) .nil))) rfl) ?_
              refine W.e rfl rfl rfl rfl (by decide) (Ef.bsT (enc := Edge.enc) (vs := [_]) (ys := [({ src := a_49, to := b_64, rights := r70 } : Edge)]) (fun _ => rfl) IF68 rfl Try.underlying22 (by decide) rfl (.cons (.t rfl) .nil) rfl rfl (by decide)) ?_
              rintro v72 _ rfl
              refine ⟨.inr ⟨.refl _, [_], rfl⟩, ?_⟩
              refine W.cast (m' := m) (l' := hownT 68 3 Edge.enc v72 _ :: hownT 68 3 Edge.enc v28 _ :: hcells b9 [_, _, _] 26 :: hownT 68 3 Edge.enc v58 _ :: hownT 27 1 encI v30 _ :: hcells b5 [_, _, _] 26 :: hcells b3 [_] 3 :: hownT 68 3 Edge.enc (.slice none 0 0) (([] : List Edge)) :: hownT 27 1 encI (.slice none 0 0) (([] : List Int)) :: l) rfl rfl ?_
              refine W.e rfl rfl rfl rfl (by decide) (Ef.apI (pos := 3) (enc := Edge.enc) (xs := l57) (ys := ([({ src := a_49, to := b_64, rights := r70 } : Edge)] : List Edge)) (fun _ => rfl) IF68 rfl rfl Try.underlying22 rfl (by decide) (.t rfl) (.t rfl) (Src.own (pos := 0) rfl) (fun _ => rfl) (by omega) (by omega)) ?_
              rintro v74 _ rfl
              refine ⟨.inl rfl, ?_⟩
              refine W.cast (m' := m) (l' := hownT 68 3 Edge.enc v72 _ :: hownT 68 3 Edge.enc v28 _ :: hcells b9 [_, _, _] 26 :: hownT 68 3 Edge.enc v74 _ :: hownT 27 1 encI v30 _ :: hcells b5 [_, _, _] 26 :: hcells b3 [_] 3 :: hownT 68 3 Edge.enc (.slice none 0 0) (([] : List Edge)) :: hownT 27 1 encI (.slice none 0 0) (([] : List Int)) :: l) rfl rfl ?_
              refine W.q rfl rfl rfl rfl (by decide) (Yd.fldB rfl Try.underlying26 rfl SZ22 rfl (.t rfl)) ?_
              refine W.s rfl rfl rfl rfl (Ef.stBo (pos := 2) (pos2 := 3) (cs' := [_, _, _]) rfl rfl rfl (.t rfl) (.t rfl) SZ22 (Nat.le_of_ble_eq_true rfl) rfl) ?_
              rintro _ _ ⟨rfl, rfl⟩
              refine ⟨.inl rfl, ?_⟩
              refine W.cast (m' := m) (l' := hownT 68 3 Edge.enc v72 _ :: hownT 68 3 Edge.enc v28 _ :: hcells b9 [_, _, _] 26 :: hownT 68 3 Edge.enc v74 _ :: hownT 27 1 encI v30 _ :: hcells b5 [_, _, _] 26 :: hcells b3 [_] 3 :: hownT 68 3 Edge.enc (.slice none 0 0) (([] : List Edge)) :: hownT 27 1 encI (.slice none 0 0) (([] : List Int)) :: l) rfl rfl ?_
              refine W.end ?_
              refine NX.sub (env' := [(3, _), (6, _), (7, _), (8, _), (16, _), (17, _)]) ⟨rfl, rfl, rfl, rfl, rfl, rfl, trivial⟩ ?_
              refine NX.drop (l' := hownT 68 3 Edge.enc v28 _ :: hcells b9 [_, _, _] 26 :: hownT 68 3 Edge.enc v74 _ :: hownT 27 1 encI v30 _ :: hcells b5 [_, _, _] 26 :: hcells b3 [_] 3 :: hownT 68 3 Edge.enc (.slice none 0 0) (([] : List Edge)) :: hownT 27 1 encI (.slice none 0 0) (([] : List Int)) :: l) (.cons _ (.cons_cons _ (.cons_cons _ (.cons_cons _ (.cons_cons _ (.cons_cons _ (.cons_cons _ (.cons_cons _ (.cons_cons _ (.refl _)))))))))) ?_
              refine NX.block ?_
              refine NX.then ?_
              refine Tr.region_f (fun _ => false) ?_
              refine W.q rfl rfl rfl rfl (by decide) (Yd.mv rfl (.t rfl)) ?_
              refine W.q rfl rfl rfl rfl (by decide) (Yd.add rfl (.t rfl) .c) ?_
              refine W.q rfl rfl rfl rfl (by decide) (Yd.as rfl (.t rfl)) ?_
              refine W.end ?_
              refine NX.sub (env' := [(3, _), (6, _), (7, _), (8, _), (16, _), (17, _)]) ⟨rfl, rfl, rfl, rfl, rfl, rfl, trivial⟩ ?_
              refine NX.sub (env' := [(3, _), (6, _), (7, _), (8, _), (16, _), (17, _)]) ⟨rfl, rfl, rfl, rfl, rfl, rfl, trivial⟩ ?_
              have hw := w64_id (n := b_64 + 1) (by omega) (by omega)
              exact NX.again n67 (b_64 + 1, (l57 ++ ([({ src := a_49, to := b_64, rights := r70 } : Edge)] : List Edge))) (Nat.lt_succ_self _) ⟨_, (by rw [hw] <;> rfl), rfl, (fr_dec hnb_64), (by omega), ((hnx66 _).symm.trans hr)⟩
            · have hr := cond_f hb hr
              refine Tr.skip' ?_
              refine NX.block ?_
              refine NX.then ?_
              refine Tr.region_f (fun _ => false) ?_
              refine W.q rfl rfl rfl rfl (by decide) (Yd.mv rfl (.t rfl)) ?_
              refine W.q rfl rfl rfl rfl (by decide) (Yd.add rfl (.t rfl) .c) ?_
              refine W.q rfl rfl rfl rfl (by decide) (Yd.as rfl (.t rfl)) ?_
              refine W.end ?_
              refine NX.sub (env' := [(3, _), (6, _), (7, _), (8, _), (16, _), (17, _)]) ⟨rfl, rfl, rfl, rfl, rfl, rfl, trivial⟩ ?_
              refine NX.sub (env' := [(3, _), (6, _), (7, _), (8, _), (16, _), (17, _)]) ⟨rfl, rfl, rfl, rfl, rfl, rfl, trivial⟩ ?_
              have hw := w64_id (n := b_64 + 1) (by omega) (by omega)
              exact NX.again n67 (b_64 + 1, l57) (Nat.lt_succ_self _) ⟨_, (by rw [hw] <;> rfl), rfl, (fr_dec hnb_64), (by omega), ((hnx66 _).symm.trans hr)⟩
  have hlen76 := (hscript_2).2.1
  refine Tr.block ?_
  refine Tr.sub (env' := [(3, _), (6, _), (7, _), (8, _), (9, _), (23, _), (24, _), (25, _)]) ⟨rfl, rfl, rfl, rfl, rfl, rfl, rfl, rfl, trivial⟩ ?_
  refine Tr.loop (S := fun n (z : Int × (List Edge) × (List Int) × Int) env x => match z with | (t_77, l22, l24, c26) => ∃ v23 : Value, ∃ v25 : Value, env = [(3, bp b3 0), (6, bp b5 0), (7, bp b9 0), (8, v23), (9, .func (.func 24) #[] #[bp b3 0]), (23, uscript_2), (24, .int .i64 ((script_2.length : Int))), (25, .int .i64 t_77)] ∧ x = ⟨m, hownT 68 3 Edge.enc v23 l22 :: hcells b9 [v25, .int .i64 ((0 : Int)), (.slice none 0 0)] 26 :: hownT 68 3 Edge.enc (.slice none 0 0) (([] : List Edge)) :: hownT 27 1 encI v25 l24 :: hcells b5 [(.slice none 0 0), .int .i64 ((0 : Int)), (.slice none 0 0)] 26 :: hcells b3 [.int .i64 c26] 3 :: hownT 68 3 Edge.enc (.slice none 0 0) (([] : List Edge)) :: hownT 27 1 encI (.slice none 0 0) (([] : List Int)) :: l⟩ ∧ n = ((script_2.length : Int) - t_77).toNat ∧ 0 ≤ t_77 ∧ forK (σ := (List Edge) × (List Int) × Int) (fun i s nx_ => syllogistref_Grant_b78 script_2 fuel i s.1 s.2.1 s.2.2 nx_) (fun s => syllogistref_Grant_k32 s.1 s.2.1 s.2.2) n t_77 (l22, l24, c26) = some r) _ ((0 : Int), (([] : List Edge) ++ edges_1), ([] : List Int), n_0) ⟨_, _, rfl, rfl, rfl, (by omega), hr⟩ ?_
  rintro n80 ⟨t_77, l22, l24, c26⟩ env x ⟨v23, v25, rfl, rfl, hnt_77, h0t_77, hr⟩
  cases n80 with
  | zero =>
    simp only [forK] at hr
    refine Tr.seq ?_
    refine Tr.region_f (fun _ => false) ?_
    refine W.q rfl rfl rfl rfl (by decide) (Yd.lss rfl (.t rfl) (.t rfl)) ?_
    refine W.end ?_
    refine NX.sub (env' := [(3, _), (6, _), (7, _), (8, _), (9, _), (23, _), (24, _), (25, _), (26, _)]) ⟨rfl, rfl, rfl, rfl, rfl, rfl, rfl, rfl, rfl, trivial⟩ ?_
    refine NX.then ?_
    refine Tr.seq ?_
    refine Tr.cond (.t rfl) (fun hb => ?_) (fun hb => ?_)
    · exact absurd (hb.symm.trans (fr_end hnt_77)) (by decide)
    ·
      refine Tr.exit' (EX.then (EX.then (EX.block ?_)))
      refine NX.sub (env' := [(3, _), (6, _), (7, _), (8, _)]) ⟨rfl, rfl, rfl, rfl, trivial⟩ ?_
      exact hk33 _ _ ⟨_, _, _, _, _, rfl, rfl, hr⟩
  | succ n80 =>
    obtain ⟨nx79, hnx79, hr⟩ := forK_succ hr
    try dsimp only at hr
    unfold syllogistref_Grant_b78 at hr
    try dsimp only at hr
    have hltt_77 := fr_bnd hnt_77
    refine Tr.seq ?_
    refine Tr.region_f (fun _ => false) ?_
    refine W.q rfl rfl rfl rfl (by decide) (Yd.lss rfl (.t rfl) (.t rfl)) ?_
    refine W.end ?_
    refine NX.sub (env' := [(3, _), (6, _), (7, _), (8, _), (9, _), (23, _), (24, _), (25, _), (26, _)]) ⟨rfl, rfl, rfl, rfl, rfl, rfl, rfl, rfl, rfl, trivial⟩ ?_
    refine NX.then ?_
    refine Tr.seq ?_
    refine Tr.cond (.t rfl) (fun hb => ?_) (fun hb => ?_)
    rotate_left
    · exact absurd (hb.symm.trans (fr_go hnt_77)) (by decide)
    ·
      refine Tr.skip' ?_
      refine NX.then ?_
      refine Tr.seq ?_
      refine Tr.block ?_
      refine Tr.seq ?_
      obtain ⟨y81, hy82, hr⟩ := bind_some hr
      refine Tr.region_f (fun i => Nat.beq i 2 || Nat.beq i 3) ?_
      refine W.q rfl rfl rfl rfl (by decide) (Yd.idxR hscript_2 hy82 rfl Try.underlying23 SZ46 (.t rfl) (.t rfl)) ?_
      refine W.q rfl rfl rfl rfl (by decide) (Yd.ldFs (us := [_, _, _, _, _, _]) hscript_2 (.refl _) hy82 rfl rfl ON46 US46 SZ46 (.t rfl)) ?_
      refine W.e rfl rfl rfl rfl (by decide) (Ef.al rfl ZR46 rfl) ?_
      rintro _ _ ⟨b83, rfl, rfl⟩
      refine ⟨.inl rfl, ?_⟩
      refine W.cast (m' := m) (l' := hcells b83 [_, _, _, _, _, _] 46 :: hownT 68 3 Edge.enc v23 _ :: hcells b9 [_, _, _] 26 :: hownT 68 3 Edge.enc (.slice none 0 0) (([] : List Edge)) :: hownT 27 1 encI v25 _ :: hcells b5 [_, _, _] 26 :: hcells b3 [_] 3 :: hownT 68 3 Edge.enc (.slice none 0 0) (([] : List Edge)) :: hownT 27 1 encI (.slice none 0 0) (([] : List Int)) :: l) rfl rfl ?_
      refine W.s rfl rfl rfl rfl (Ef.stB (pos := 0) (us := [_, _, _, _, _, _]) (cs' := [_, _, _, _, _, _]) rfl rfl (.t rfl) (.t rfl) SZ46 rfl rfl rfl (Nat.le_of_ble_eq_true rfl) rfl) ?_
      rintro _ _ ⟨rfl, rfl⟩
      refine ⟨.inl rfl, ?_⟩
      refine W.cast (m' := m) (l' := hcells b83 [_, _, _, _, _, _] 46 :: hownT 68 3 Edge.enc v23 _ :: hcells b9 [_, _, _] 26 :: hownT 68 3 Edge.enc (.slice none 0 0) (([] : List Edge)) :: hownT 27 1 encI v25 _ :: hcells b5 [_, _, _] 26 :: hcells b3 [_] 3 :: hownT 68 3 Edge.enc (.slice none 0 0) (([] : List Edge)) :: hownT 27 1 encI (.slice none 0 0) (([] : List Int)) :: l) rfl rfl ?_
      refine W.end ?_
      refine NX.sub (env' := [(3, _), (6, _), (7, _), (8, _), (9, _), (23, _), (24, _), (25, _), (11, _)]) ⟨rfl, rfl, rfl, rfl, rfl, rfl, rfl, rfl, rfl, trivial⟩ ?_
      refine NX.then ?_
      refine Tr.seq ?_
      refine Tr.region_f (fun _ => false) ?_
      refine W.q rfl rfl rfl rfl (by decide) (Yd.as rfl .c) ?_
      refine W.end ?_
      refine NX.sub (env' := [(3, _), (6, _), (7, _), (8, _), (9, _), (23, _), (24, _), (25, _), (11, _), (12, _)]) ⟨rfl, rfl, rfl, rfl, rfl, rfl, rfl, rfl, rfl, rfl, trivial⟩ ?_
      refine NX.then ?_
      refine Tr.seq ?_
      refine Tr.region_f (fun _ => false) ?_
      refine W.q rfl rfl rfl rfl (by decide) (Yd.fldB rfl Try.underlying46 rfl SZ44 rfl (.t rfl)) ?_
      refine W.q rfl rfl rfl rfl (by decide) (Yd.fldB rfl Try.underlying44 rfl SZ3 rfl (.t rfl)) ?_
      refine W.q rfl rfl rfl rfl (by decide) (Yd.ldB (pos := 0) rfl rfl rfl ON3 (.t rfl)) ?_
      refine W.q rfl rfl rfl rfl (by decide) (Yd.as rfl (.t rfl)) ?_
      refine W.end ?_
      refine NX.sub (env' := [(3, _), (6, _), (7, _), (8, _), (9, _), (23, _), (24, _), (25, _), (11, _), (12, _), (13, _)]) ⟨rfl, rfl, rfl, rfl, rfl, rfl, rfl, rfl, rfl, rfl, rfl, trivial⟩ ?_
      refine NX.then ?_
      refine Tr.seq ?_
      refine Tr.region_f (fun _ => false) ?_
      refine W.q rfl rfl rfl rfl (by decide) (Yd.fldB rfl Try.underlying46 rfl SZ44 rfl (.t rfl)) ?_
      refine W.q rfl rfl rfl rfl (by decide) (Yd.fldB rfl Try.underlying44 rfl SZ35 rfl (.t rfl)) ?_
      refine W.q rfl rfl rfl rfl (by decide) (Yd.ldB (pos := 0) rfl rfl rfl ON35 (.t rfl)) ?_
      refine W.q rfl rfl rfl rfl (by decide) (Yd.as rfl (.t rfl)) ?_
      refine W.end ?_
      refine NX.sub (env' := [(3, _), (6, _), (7, _), (8, _), (9, _), (23, _), (24, _), (25, _), (11, _), (12, _), (13, _), (14, _)]) ⟨rfl, rfl, rfl, rfl, rfl, rfl, rfl, rfl, rfl, rfl, rfl, rfl, trivial⟩ ?_
      refine NX.then ?_
      refine Tr.seq ?_
      refine Tr.seq ?_
      refine Tr.region_f (fun _ => false) ?_
      refine W.q rfl rfl rfl rfl (by decide) (Yd.fldB rfl Try.underlying46 rfl SZ3 rfl (.t rfl)) ?_
      refine W.q rfl rfl rfl rfl (by decide) (Yd.ldB (pos := 0) rfl rfl rfl ON3 (.t rfl)) ?_
      refine W.q rfl rfl rfl rfl (by decide) (Yd.lss rfl (.t rfl) .c) ?_
      refine W.q rfl rfl rfl rfl (by decide) (Yd.mv rfl (.t rfl)) ?_
      refine W.g rfl rfl rfl rfl rfl (.t rfl _) rfl (by decide) (fun hG => Yd.fldB rfl Try.underlying46 rfl SZ3 rfl (.t rfl)) ?_
      refine W.g rfl rfl rfl rfl rfl (.t rfl _) rfl (by decide) (fun hG => Yd.ldB (pos := 0) rfl rfl rfl ON3 (.g rfl hG)) ?_
      refine W.g rfl rfl rfl rfl rfl (.t rfl _) rfl (by decide) (fun hG => Yd.gtr rfl (.g rfl hG) .c) ?_
      refine W.q rfl rfl rfl rfl (by decide) (Yd.or rfl (.t rfl) .c rfl rfl) ?_
      refine W.end ?_
      refine NX.sub (env' := [(3, _), (6, _), (7, _), (8, _), (9, _), (23, _), (24, _), (25, _), (11, _), (12, _), (13, _), (14, _), (42, _)]) ⟨rfl, rfl, rfl, rfl, rfl, rfl, rfl, rfl, rfl, rfl, rfl, rfl, rfl, trivial⟩ ?_
      refine NX.then ?_
      refine Tr.join (S := fun env x => ∃ e_85 : Int, ∃ l86 : List Edge, ∃ c88 : Int, ∃ v87 : Value, env = [(3, bp b3 0), (6, bp b5 0), (7, bp b9 0), (8, v87), (9, .func (.func 24) #[] #[bp b3 0]), (23, uscript_2), (24, .int .i64 ((script_2.length : Int))), (25, .int .i64 t_77), (12, .int .i64 e_85)] ∧ x = ⟨m, hownT 68 3 Edge.enc v87 l86 :: hcells b9 [v25, .int .i64 ((0 : Int)), (.slice none 0 0)] 26 :: hownT 68 3 Edge.enc (.slice none 0 0) (([] : List Edge)) :: hownT 27 1 encI v25 l24 :: hcells b5 [(.slice none 0 0), .int .i64 ((0 : Int)), (.slice none 0 0)] 26 :: hcells b3 [.int .i64 c88] 3 :: hownT 68 3 Edge.enc (.slice none 0 0) (([] : List Edge)) :: hownT 27 1 encI (.slice none 0 0) (([] : List Int)) :: l⟩ ∧ syllogistref_Grant_k89 l24 nx79 e_85 l86 c88 = some r) ?_ (fun hk90 => ?_)
      · rintro _ _ ⟨e_85, l86, c88, v87, rfl, rfl, hr⟩
        unfold syllogistref_Grant_k89 at hr
        try dsimp only at hr
        refine NX.then ?_
        obtain ⟨hq94, hr⟩ := guard_some hr; replace hq94 := of_decide_eq_true hq94
        refine Tr.region_f (fun i => Nat.beq i 3 || Nat.beq i 4 || Nat.beq i 6) ?_
        refine W.q rfl rfl rfl rfl (by decide) (Yd.fldB rfl Try.underlying26 rfl SZ24 rfl (.t rfl)) ?_
        refine W.q rfl rfl rfl rfl (by decide) (Yd.ldB (pos := 1) rfl rfl rfl ON24 (.t rfl)) ?_
        refine W.q rfl rfl rfl rfl (by decide) (Yd.mv rfl (.t rfl)) ?_
        refine W.e rfl rfl rfl rfl (by decide) (Ef.bsT (enc := encI) (vs := [_]) (ys := [e_85]) (fun _ => rfl) IF27 rfl Try.underlying24 (by decide) rfl (.cons (.t rfl) .nil) rfl rfl (by decide)) ?_
        rintro v91 _ rfl
        refine ⟨.inl rfl, ?_⟩
        refine W.cast (m' := m) (l' := hownT 27 1 encI v91 _ :: hownT 68 3 Edge.enc v87 _ :: hcells b9 [_, _, _] 26 :: hownT 68 3 Edge.enc (.slice none 0 0) (([] : List Edge)) :: hownT 27 1 encI v25 _ :: hcells b5 [_, _, _] 26 :: hcells b3 [_] 3 :: hownT 68 3 Edge.enc (.slice none 0 0) (([] : List Edge)) :: hownT 27 1 encI (.slice none 0 0) (([] : List Int)) :: l) rfl rfl ?_
        refine W.e rfl rfl rfl rfl (by decide) (Ef.apI (pos := 4) (enc := encI) (xs := l24) (ys := ([e_85] : List Int)) (fun _ => rfl) IF27 rfl rfl Try.underlying24 rfl (by decide) (.t rfl) (.t rfl) (Src.own (pos := 0) rfl) (fun _ => rfl) (by omega) (by omega)) ?_
        rintro v93 _ rfl
        refine ⟨.inl rfl, ?_⟩
        refine W.cast (m' := m) (l' := hownT 27 1 encI v91 _ :: hownT 68 3 Edge.enc v87 _ :: hcells b9 [_, _, _] 26 :: hownT 68 3 Edge.enc (.slice none 0 0) (([] : List Edge)) :: hownT 27 1 encI v93 _ :: hcells b5 [_, _, _] 26 :: hcells b3 [_] 3 :: hownT 68 3 Edge.enc (.slice none 0 0) (([] : List Edge)) :: hownT 27 1 encI (.slice none 0 0) (([] : List Int)) :: l) rfl rfl ?_
        refine W.q rfl rfl rfl rfl (by decide) (Yd.fldB rfl Try.underlying26 rfl SZ24 rfl (.t rfl)) ?_
        refine W.s rfl rfl rfl rfl (Ef.stBo (pos := 2) (pos2 := 4) (cs' := [_, _, _]) rfl rfl rfl (.t rfl) (.t rfl) SZ24 (Nat.le_of_ble_eq_true rfl) rfl) ?_
        rintro _ _ ⟨rfl, rfl⟩
        refine ⟨.inl rfl, ?_⟩
        refine W.cast (m' := m) (l' := hownT 27 1 encI v91 _ :: hownT 68 3 Edge.enc v87 _ :: hcells b9 [_, _, _] 26 :: hownT 68 3 Edge.enc (.slice none 0 0) (([] : List Edge)) :: hownT 27 1 encI v93 _ :: hcells b5 [_, _, _] 26 :: hcells b3 [_] 3 :: hownT 68 3 Edge.enc (.slice none 0 0) (([] : List Edge)) :: hownT 27 1 encI (.slice none 0 0) (([] : List Int)) :: l) rfl rfl ?_
        refine W.end ?_
        refine NX.sub (env' := [(3, _), (6, _), (7, _), (8, _), (9, _), (23, _), (24, _), (25, _)]) ⟨rfl, rfl, rfl, rfl, rfl, rfl, rfl, rfl, trivial⟩ ?_
        refine NX.drop (l' := hownT 68 3 Edge.enc v87 _ :: hcells b9 [_, _, _] 26 :: hownT 68 3 Edge.enc (.slice none 0 0) (([] : List Edge)) :: hownT 27 1 encI v93 _ :: hcells b5 [_, _, _] 26 :: hcells b3 [_] 3 :: hownT 68 3 Edge.enc (.slice none 0 0) (([] : List Edge)) :: hownT 27 1 encI (.slice none 0 0) (([] : List Int)) :: l) (.cons _ (.cons_cons _ (.cons_cons _ (.cons_cons _ (.cons_cons _ (.cons_cons _ (.cons_cons _ (.cons_cons _ (.cons_cons _ (.refl _)))))))))) ?_
        refine NX.block ?_
        refine NX.then ?_
        refine Tr.region_f (fun _ => false) ?_
        refine W.q rfl rfl rfl rfl (by decide) (Yd.add rfl (.t rfl) .c) ?_
        refine W.q rfl rfl rfl rfl (by decide) (Yd.mv rfl (.t rfl)) ?_
        refine W.end ?_
        refine NX.sub (env' := [(3, _), (6, _), (7, _), (8, _), (9, _), (23, _), (24, _), (25, _)]) ⟨rfl, rfl, rfl, rfl, rfl, rfl, rfl, rfl, trivial⟩ ?_
        refine NX.sub (env' := [(3, _), (6, _), (7, _), (8, _), (9, _), (23, _), (24, _), (25, _)]) ⟨rfl, rfl, rfl, rfl, rfl, rfl, rfl, rfl, trivial⟩ ?_
        have hw := w64_id (n := t_77 + 1) (by omega) (by omega)
        exact NX.again n80 (t_77 + 1, l86, (l24 ++ ([e_85] : List Int)), c88) (Nat.lt_succ_self _) ⟨_, _, (by rw [hw] <;> rfl), rfl, (fr_dec hnt_77), (by omega), ((hnx79 _).symm.trans hr)⟩
      refine Tr.cond (.t rfl) (fun hb => ?_) (fun hb => ?_)
      · have hr := cond_t hb hr
        refine Tr.region_f (fun _ => false) ?_
        refine W.q rfl rfl rfl rfl (by decide) (Yd.as rfl .c) ?_
        refine W.end ?_
        refine NX.sub (env' := [(3, _), (6, _), (7, _), (8, _), (9, _), (23, _), (24, _), (25, _), (12, _)]) ⟨rfl, rfl, rfl, rfl, rfl, rfl, rfl, rfl, rfl, trivial⟩ ?_
        refine NX.drop (l' := hownT 68 3 Edge.enc v23 _ :: hcells b9 [_, _, _] 26 :: hownT 68 3 Edge.enc (.slice none 0 0) (([] : List Edge)) :: hownT 27 1 encI v25 _ :: hcells b5 [_, _, _] 26 :: hcells b3 [_] 3 :: hownT 68 3 Edge.enc (.slice none 0 0) (([] : List Edge)) :: hownT 27 1 encI (.slice none 0 0) (([] : List Int)) :: l) (.cons _ (.cons_cons _ (.cons_cons _ (.cons_cons _ (.cons_cons _ (.cons_cons _ (.cons_cons _ (.cons_cons _ (.cons_cons _ (.refl _)))))))))) ?_
        refine NX.sub (env' := [(3, _), (6, _), (7, _), (8, _), (9, _), (23, _), (24, _), (25, _), (12, _)]) ⟨rfl, rfl, rfl, rfl, rfl, rfl, rfl, rfl, rfl, trivial⟩ ?_
        exact hk90 _ _ ⟨_, _, _, _, rfl, rfl, hr⟩
      · have hr := cond_f hb hr
        refine Tr.seq ?_
        obtain ⟨r95, hr96, hr⟩ := bind_some hr
        obtain ⟨ha97, hr⟩ := guard_some hr
        refine Tr.region_f (fun _ => false) ?_
        refine W.q rfl rfl rfl rfl (by decide) (Yd.mv rfl (.t rfl)) ?_
        refine W.q rfl rfl rfl rfl (by decide) (Yd.fldB rfl Try.underlying46 rfl SZ3 rfl (.t rfl)) ?_
        refine W.q rfl rfl rfl rfl (by decide) (Yd.ldB (pos := 0) rfl rfl rfl ON3 (.t rfl)) ?_
        refine W.q rfl rfl rfl rfl (by decide) (Yd.callC (v := .bool r95) rfl (.t rfl) Try.func24 rfl rfl (.cons (.t rfl) .nil) (by intro x' hx w hw; obtain ⟨p5, hp5⟩ := hx.at (p := 6) rfl; exact syllogistref_Grant_c1_ok w0 x'.m x'.l y81.by_ p5 _ c26 hp5 _ hr96 w hw)) ?_
        refine W.q rfl rfl rfl rfl (by decide) (Yd.not rfl (.t rfl)) ?_
        refine W.q rfl rfl rfl rfl (by decide) (Yd.mv rfl (.t rfl)) ?_
        refine W.g rfl rfl rfl rfl rfl (.t rfl _) rfl (by decide) (fun hG => Yd.fldB rfl Try.underlying46 rfl SZ3 rfl (.t rfl)) ?_
        refine W.g rfl rfl rfl rfl rfl (.t rfl _) rfl (by decide) (fun hG => Yd.ldB (pos := 0) rfl rfl rfl ON3 (.g rfl hG)) ?_
        refine W.g rfl rfl rfl rfl rfl (.t rfl _) rfl (by decide) (fun hG => Yd.neq rfl (.g rfl hG) .c) ?_
        refine W.g rfl rfl rfl rfl rfl (.t rfl _) rfl (by decide) (fun hG => Yd.mv rfl (.g rfl hG)) ?_
        refine W.g rfl rfl rfl rfl rfl (.g rfl _) rfl (by decide) (fun hG => Yd.mv rfl (.t rfl)) ?_
        refine W.g rfl rfl rfl rfl rfl (.g rfl _) rfl (by decide) (fun hG => Yd.fldB rfl Try.underlying46 rfl SZ3 rfl (.t rfl)) ?_
        refine W.g rfl rfl rfl rfl rfl (.g rfl _) rfl (by decide) (fun hG => Yd.ldB (pos := 0) rfl rfl rfl ON3 (.g rfl hG)) ?_
        refine W.g rfl rfl rfl rfl rfl (.g rfl _) rfl (by decide) (fun hG => Yd.callC (v := .bool ((((syllogistref_Grant_c1 y81.to c26).getD false)))) rfl (.g rfl hG) Try.func24 rfl rfl (.cons (.g rfl hG) .nil) (by intro x' hx w hw; obtain ⟨p5, hp5⟩ := hx.at (p := 6) rfl; exact syllogistref_Grant_c1_ok w0 x'.m x'.l y81.to p5 _ c26 hp5 _ (gd_get (d := false) ha97 hG) w hw)) ?_
        refine W.g rfl rfl rfl rfl rfl (.g rfl _) rfl (by decide) (fun hG => Yd.not rfl (.g rfl hG)) ?_
        refine W.g rfl rfl rfl rfl rfl (.g rfl _) rfl (by decide) (fun hG => Yd.mv rfl (.g rfl hG)) ?_
        refine W.g rfl rfl rfl rfl rfl (.g rfl _) rfl (by decide) (fun hG => Yd.fldB rfl Try.underlying46 rfl SZ3 rfl (.t rfl)) ?_
        refine W.g rfl rfl rfl rfl rfl (.g rfl _) rfl (by decide) (fun hG => Yd.ldB (pos := 0) rfl rfl rfl ON3 (.g rfl hG)) ?_
        refine W.g rfl rfl rfl rfl rfl (.g rfl _) rfl (by decide) (fun hG => Yd.fldB rfl Try.underlying46 rfl SZ3 rfl (.t rfl)) ?_
        refine W.g rfl rfl rfl rfl rfl (.g rfl _) rfl (by decide) (fun hG => Yd.ldB (pos := 0) rfl rfl rfl ON3 (.g rfl hG)) ?_
        refine W.g rfl rfl rfl rfl rfl (.g rfl _) rfl (by decide) (fun hG => Yd.eql rfl (.g rfl hG) (.g rfl hG)) ?_
        refine W.g rfl rfl rfl rfl rfl (.g rfl _) rfl (by decide) (fun hG => Yd.orG rfl (.g rfl hG) .c rfl rfl hG) ?_
        refine W.g rfl rfl rfl rfl rfl (.t rfl _) rfl (by decide) (fun hG => Yd.andG rfl (.g rfl hG) .c rfl rfl hG) ?_
        refine W.q rfl rfl rfl rfl (by decide) (Yd.or rfl (.t rfl) .c rfl rfl) ?_
        refine W.end ?_
        refine NX.sub (env' := [(3, _), (6, _), (7, _), (8, _), (9, _), (23, _), (24, _), (25, _), (11, _), (12, _), (13, _), (14, _), (66, _)]) ⟨rfl, rfl, rfl, rfl, rfl, rfl, rfl, rfl, rfl, rfl, rfl, rfl, rfl, trivial⟩ ?_
        refine NX.then ?_
        refine Tr.cond (.t rfl) (fun hb => ?_) (fun hb => ?_)
        · have hr := cond_t hb hr
          refine Tr.region_f (fun _ => false) ?_
          refine W.q rfl rfl rfl rfl (by decide) (Yd.as rfl .c) ?_
          refine W.end ?_
          refine NX.sub (env' := [(3, _), (6, _), (7, _), (8, _), (9, _), (23, _), (24, _), (25, _), (12, _)]) ⟨rfl, rfl, rfl, rfl, rfl, rfl, rfl, rfl, rfl, trivial⟩ ?_
          refine NX.drop (l' := hownT 68 3 Edge.enc v23 _ :: hcells b9 [_, _, _] 26 :: hownT 68 3 Edge.enc (.slice none 0 0) (([] : List Edge)) :: hownT 27 1 encI v25 _ :: hcells b5 [_, _, _] 26 :: hcells b3 [_] 3 :: hownT 68 3 Edge.enc (.slice none 0 0) (([] : List Edge)) :: hownT 27 1 encI (.slice none 0 0) (([] : List Int)) :: l) (.cons _ (.cons_cons _ (.cons_cons _ (.cons_cons _ (.cons_cons _ (.cons_cons _ (.cons_cons _ (.cons_cons _ (.cons_cons _ (.refl _)))))))))) ?_
          refine NX.sub (env' := [(3, _), (6, _), (7, _), (8, _), (9, _), (23, _), (24, _), (25, _), (12, _)]) ⟨rfl, rfl, rfl, rfl, rfl, rfl, rfl, rfl, rfl, trivial⟩ ?_
          exact hk90 _ _ ⟨_, _, _, _, rfl, rfl, hr⟩
        · have hr := cond_f hb hr
          refine Tr.seq ?_
          obtain ⟨ha98, hr⟩ := guard_some hr
          refine Tr.region_f (fun _ => false) ?_
          refine W.q rfl rfl rfl rfl (by decide) (Yd.fldB rfl Try.underlying46 rfl SZ3 rfl (.t rfl)) ?_
          refine W.q rfl rfl rfl rfl (by decide) (Yd.ldB (pos := 0) rfl rfl rfl ON3 (.t rfl)) ?_
          refine W.q rfl rfl rfl rfl (by decide) (Yd.eql rfl (.t rfl) .c) ?_
          refine W.q rfl rfl rfl rfl (by decide) (Yd.mv rfl (.t rfl)) ?_
          refine W.g rfl rfl rfl rfl rfl (.t rfl _) rfl (by decide) (fun hG => Yd.fldB rfl Try.underlying46 rfl SZ3 rfl (.t rfl)) ?_
          refine W.g rfl rfl rfl rfl rfl (.t rfl _) rfl (by decide) (fun hG => Yd.ldB (pos := 0) rfl rfl rfl ON3 (.g rfl hG)) ?_
          refine W.g rfl rfl rfl rfl rfl (.t rfl _) rfl (by decide) (fun hG => Yd.eql rfl (.g rfl hG) .c) ?_
          refine W.q rfl rfl rfl rfl (by decide) (Yd.or rfl (.t rfl) .c rfl rfl) ?_
          refine W.q rfl rfl rfl rfl (by decide) (Yd.mv rfl (.t rfl)) ?_
          refine W.g rfl rfl rfl rfl rfl (.t rfl _) rfl (by decide) (fun hG => Yd.mv rfl (.t rfl)) ?_
          refine W.g rfl rfl rfl rfl rfl (.t rfl _) rfl (by decide) (fun hG => Yd.mv rfl (.t rfl)) ?_
          refine W.g rfl rfl rfl rfl rfl (.t rfl _) rfl (by decide) (fun hG => Yd.callC (v := .bool ((((syllogistref_Grant_c1 y81.label.level c26).getD false)))) rfl (.g rfl hG) Try.func24 rfl rfl (.cons (.g rfl hG) .nil) (by intro x' hx w hw; obtain ⟨p5, hp5⟩ := hx.at (p := 6) rfl; exact syllogistref_Grant_c1_ok w0 x'.m x'.l y81.label.level p5 _ c26 hp5 _ (gd_get (d := false) ha98 hG) w hw)) ?_
          refine W.g rfl rfl rfl rfl rfl (.t rfl _) rfl (by decide) (fun hG => Yd.not rfl (.g rfl hG)) ?_
          refine W.q rfl rfl rfl rfl (by decide) (Yd.and rfl (.t rfl) .c rfl rfl) ?_
          refine W.q rfl rfl rfl rfl (by decide) (Yd.mv rfl (.t rfl)) ?_
          refine W.g rfl rfl rfl rfl rfl (.t rfl _) rfl (by decide) (fun hG => Yd.fldB rfl Try.underlying46 rfl SZ3 rfl (.t rfl)) ?_
          refine W.g rfl rfl rfl rfl rfl (.t rfl _) rfl (by decide) (fun hG => Yd.ldB (pos := 0) rfl rfl rfl ON3 (.g rfl hG)) ?_
          refine W.g rfl rfl rfl rfl rfl (.t rfl _) rfl (by decide) (fun hG => Yd.eql rfl (.g rfl hG) .c) ?_
          refine W.g rfl rfl rfl rfl rfl (.t rfl _) rfl (by decide) (fun hG => Yd.mv rfl (.g rfl hG)) ?_
          refine W.g rfl rfl rfl rfl rfl (.g rfl _) rfl (by decide) (fun hG => Yd.mv rfl (.t rfl)) ?_
          refine W.g rfl rfl rfl rfl rfl (.g rfl _) rfl (by decide) (fun hG => Yd.fldB rfl Try.underlying46 rfl SZ3 rfl (.t rfl)) ?_
          refine W.g rfl rfl rfl rfl rfl (.g rfl _) rfl (by decide) (fun hG => Yd.ldB (pos := 0) rfl rfl rfl ON3 (.g rfl hG)) ?_
          refine W.g rfl rfl rfl rfl rfl (.g rfl _) rfl (by decide) (fun hG => Yd.eql rfl (.g rfl hG) (.g rfl hG)) ?_
          refine W.g rfl rfl rfl rfl rfl (.t rfl _) rfl (by decide) (fun hG => Yd.andG rfl (.g rfl hG) .c rfl rfl hG) ?_
          refine W.q rfl rfl rfl rfl (by decide) (Yd.or rfl (.t rfl) .c rfl rfl) ?_
          refine W.q rfl rfl rfl rfl (by decide) (Yd.mv rfl (.t rfl)) ?_
          refine W.g rfl rfl rfl rfl rfl (.t rfl _) rfl (by decide) (fun hG => Yd.fldB rfl Try.underlying46 rfl SZ3 rfl (.t rfl)) ?_
          refine W.g rfl rfl rfl rfl rfl (.t rfl _) rfl (by decide) (fun hG => Yd.ldB (pos := 0) rfl rfl rfl ON3 (.g rfl hG)) ?_
          refine W.g rfl rfl rfl rfl rfl (.t rfl _) rfl (by decide) (fun hG => Yd.eql rfl (.g rfl hG) .c) ?_
          refine W.g rfl rfl rfl rfl rfl (.t rfl _) rfl (by decide) (fun hG => Yd.mv rfl (.g rfl hG)) ?_
          refine W.g rfl rfl rfl rfl rfl (.g rfl _) rfl (by decide) (fun hG => Yd.mv rfl (.t rfl)) ?_
          refine W.g rfl rfl rfl rfl rfl (.g rfl _) rfl (by decide) (fun hG => Yd.fldB rfl Try.underlying46 rfl SZ3 rfl (.t rfl)) ?_
          refine W.g rfl rfl rfl rfl rfl (.g rfl _) rfl (by decide) (fun hG => Yd.ldB (pos := 0) rfl rfl rfl ON3 (.g rfl hG)) ?_
          refine W.g rfl rfl rfl rfl rfl (.g rfl _) rfl (by decide) (fun hG => Yd.eql rfl (.g rfl hG) (.g rfl hG)) ?_
          refine W.g rfl rfl rfl rfl rfl (.t rfl _) rfl (by decide) (fun hG => Yd.andG rfl (.g rfl hG) .c rfl rfl hG) ?_
          refine W.q rfl rfl rfl rfl (by decide) (Yd.or rfl (.t rfl) .c rfl rfl) ?_
          refine W.end ?_
          refine NX.sub (env' := [(3, _), (6, _), (7, _), (8, _), (9, _), (23, _), (24, _), (25, _), (11, _), (12, _), (13, _), (14, _), (102, _)]) ⟨rfl, rfl, rfl, rfl, rfl, rfl, rfl, rfl, rfl, rfl, rfl, rfl, rfl, trivial⟩ ?_
          refine NX.then ?_
          refine Tr.cond (.t rfl) (fun hb => ?_) (fun hb => ?_)
          · have hr := cond_t hb hr
            refine Tr.region_f (fun _ => false) ?_
            refine W.q rfl rfl rfl rfl (by decide) (Yd.as rfl .c) ?_
            refine W.end ?_
            refine NX.sub (env' := [(3, _), (6, _), (7, _), (8, _), (9, _), (23, _), (24, _), (25, _), (12, _)]) ⟨rfl, rfl, rfl, rfl, rfl, rfl, rfl, rfl, rfl, trivial⟩ ?_
            refine NX.drop (l' := hownT 68 3 Edge.enc v23 _ :: hcells b9 [_, _, _] 26 :: hownT 68 3 Edge.enc (.slice none 0 0) (([] : List Edge)) :: hownT 27 1 encI v25 _ :: hcells b5 [_, _, _] 26 :: hcells b3 [_] 3 :: hownT 68 3 Edge.enc (.slice none 0 0) (([] : List Edge)) :: hownT 27 1 encI (.slice none 0 0) (([] : List Int)) :: l) (.cons _ (.cons_cons _ (.cons_cons _ (.cons_cons _ (.cons_cons _ (.cons_cons _ (.cons_cons _ (.cons_cons _ (.cons_cons _ (.refl _)))))))))) ?_
            refine NX.sub (env' := [(3, _), (6, _), (7, _), (8, _), (9, _), (23, _), (24, _), (25, _), (12, _)]) ⟨rfl, rfl, rfl, rfl, rfl, rfl, rfl, rfl, rfl, trivial⟩ ?_
            exact hk90 _ _ ⟨_, _, _, _, rfl, rfl, hr⟩
          · have hr := cond_f hb hr
            refine Tr.seq ?_
            refine Tr.region_f (fun _ => false) ?_
            refine W.q rfl rfl rfl rfl (by decide) (Yd.fldB rfl Try.underlying46 rfl SZ3 rfl (.t rfl)) ?_
            refine W.q rfl rfl rfl rfl (by decide) (Yd.ldB (pos := 0) rfl rfl rfl ON3 (.t rfl)) ?_
            refine W.q rfl rfl rfl rfl (by decide) (Yd.eql rfl (.t rfl) .c) ?_
            refine W.end ?_
            refine NX.sub (env' := [(3, _), (6, _), (7, _), (8, _), (9, _), (23, _), (24, _), (25, _), (11, _), (12, _), (13, _), (14, _), (105, _)]) ⟨rfl, rfl, rfl, rfl, rfl, rfl, rfl, rfl, rfl, rfl, rfl, rfl, rfl, trivial⟩ ?_
            refine NX.then ?_
            refine Tr.cond (.t rfl) (fun hb => ?_) (fun hb => ?_)
            · have hr := cond_t hb hr
              refine Tr.seq ?_
              obtain ⟨r99, hr100, hr⟩ := bind_some hr
              obtain ⟨r101, hr102, hr⟩ := bind_some hr
              obtain ⟨ha103, hr⟩ := guard_some hr
              obtain ⟨ha104, hr⟩ := guard_some hr
              refine Tr.region_f (fun _ => false) ?_
              refine W.q rfl rfl rfl rfl (by decide) (Yd.mv rfl (.t rfl)) ?_
              refine W.q rfl rfl rfl rfl (by decide) (Yd.fldB rfl Try.underlying46 rfl SZ3 rfl (.t rfl)) ?_
              refine W.q rfl rfl rfl rfl (by decide) (Yd.ldB (pos := 0) rfl rfl rfl ON3 (.t rfl)) ?_
              refine W.q rfl rfl rfl rfl (by decide) (Yd.fldB rfl Try.underlying46 rfl SZ3 rfl (.t rfl)) ?_
              refine W.q rfl rfl rfl rfl (by decide) (Yd.ldB (pos := 0) rfl rfl rfl ON3 (.t rfl)) ?_
              refine W.q rfl rfl rfl rfl (by decide) (Yd.call (v := .int .u32 (r99.toNat : Int)) rfl Try.func17 rfl rfl (.cons (.t rfl) (.cons (.t rfl) (.cons (.t rfl) .nil))) (by intro x' hx w hw; obtain ⟨p0, hp0⟩ := hx.at (p := 1) rfl; obtain ⟨m2, hm2, hc2, ⟨L2, hl1, hl2⟩, hback⟩ := cX_lend hw hp0 lone_own; have hL1 : RS rEdge m2 _ _ := RS_of_own hl1 hl2; exact (syllogistref_Over_ok w0 m2 _ _ _ hL1 y81.by_ y81.to _ hr100 w hc2).mono fun e w' ⟨he, hc'⟩ => ⟨he, (hback m2 _ _ w' (.refl _) hp0).2 hc'⟩)) ?_
              refine W.q rfl rfl rfl rfl (by decide) (Yd.call (v := .bool r101) rfl Try.func16 rfl rfl (.cons .c (.cons (.t rfl) .nil)) (fun x' hx w hw => syllogistref_In_ok w0 x'.m x'.l (1#32) r99 _ hr102 w hw)) ?_
              refine W.q rfl rfl rfl rfl (by decide) (Yd.not rfl (.t rfl)) ?_
              refine W.q rfl rfl rfl rfl (by decide) (Yd.mv rfl (.t rfl)) ?_
              refine W.g rfl rfl rfl rfl rfl (.t rfl _) rfl (by decide) (fun hG => Yd.mv rfl (.t rfl)) ?_
              refine W.g rfl rfl rfl rfl rfl (.t rfl _) rfl (by decide) (fun hG => Yd.mv rfl (.t rfl)) ?_
              refine W.g rfl rfl rfl rfl rfl (.t rfl _) rfl (by decide) (fun hG => Yd.fldB rfl Try.underlying46 rfl SZ3 rfl (.t rfl)) ?_
              refine W.g rfl rfl rfl rfl rfl (.t rfl _) rfl (by decide) (fun hG => Yd.ldB (pos := 0) rfl rfl rfl ON3 (.g rfl hG)) ?_
              refine W.g rfl rfl rfl rfl rfl (.t rfl _) rfl (by decide) (fun hG => Yd.mv rfl (.t rfl)) ?_
              refine W.g rfl rfl rfl rfl rfl (.t rfl _) rfl (by decide) (fun hG => Yd.call (v := .int .u32 (((((syllogistref_Over l22 y81.to y81.label.level).getD (0#32)))).toNat : Int)) rfl Try.func17 rfl rfl (.cons (.g rfl hG) (.cons (.g rfl hG) (.cons (.g rfl hG) .nil))) (by intro x' hx w hw; obtain ⟨p0, hp0⟩ := hx.at (p := 1) rfl; obtain ⟨m2, hm2, hc2, ⟨L2, hl1, hl2⟩, hback⟩ := cX_lend hw hp0 lone_own; have hL1 : RS rEdge m2 _ _ := RS_of_own hl1 hl2; exact (syllogistref_Over_ok w0 m2 _ _ _ hL1 y81.to y81.label.level _ (gd_get (d := (0#32)) ha103 hG) w hc2).mono fun e w' ⟨he, hc'⟩ => ⟨he, (hback m2 _ _ w' (.refl _) hp0).2 hc'⟩)) ?_
              refine W.g rfl rfl rfl rfl rfl (.t rfl _) rfl (by decide) (fun hG => Yd.call (v := .bool ((((syllogistref_In y81.label.parts ((((syllogistref_Over l22 y81.to y81.label.level).getD (0#32))))).getD false)))) rfl Try.func16 rfl rfl (.cons (.g rfl hG) (.cons (.g rfl hG) .nil)) (fun x' hx w hw => syllogistref_In_ok w0 x'.m x'.l y81.label.parts ((((syllogistref_Over l22 y81.to y81.label.level).getD (0#32)))) _ (gd_get (d := false) ha104 hG) w hw)) ?_
              refine W.g rfl rfl rfl rfl rfl (.t rfl _) rfl (by decide) (fun hG => Yd.not rfl (.g rfl hG)) ?_
              refine W.q rfl rfl rfl rfl (by decide) (Yd.or rfl (.t rfl) .c rfl rfl) ?_
              refine W.end ?_
              refine NX.sub (env' := [(3, _), (6, _), (7, _), (8, _), (9, _), (23, _), (24, _), (25, _), (11, _), (12, _), (13, _), (14, _), (123, _)]) ⟨rfl, rfl, rfl, rfl, rfl, rfl, rfl, rfl, rfl, rfl, rfl, rfl, rfl, trivial⟩ ?_
              refine NX.then ?_
              refine Tr.cond (.t rfl) (fun hb => ?_) (fun hb => ?_)
              · have hr := cond_t hb hr
                refine Tr.region_f (fun _ => false) ?_
                refine W.q rfl rfl rfl rfl (by decide) (Yd.as rfl .c) ?_
                refine W.end ?_
                refine NX.sub (env' := [(3, _), (6, _), (7, _), (8, _), (9, _), (23, _), (24, _), (25, _), (12, _)]) ⟨rfl, rfl, rfl, rfl, rfl, rfl, rfl, rfl, rfl, trivial⟩ ?_
                refine NX.drop (l' := hownT 68 3 Edge.enc v23 _ :: hcells b9 [_, _, _] 26 :: hownT 68 3 Edge.enc (.slice none 0 0) (([] : List Edge)) :: hownT 27 1 encI v25 _ :: hcells b5 [_, _, _] 26 :: hcells b3 [_] 3 :: hownT 68 3 Edge.enc (.slice none 0 0) (([] : List Edge)) :: hownT 27 1 encI (.slice none 0 0) (([] : List Int)) :: l) (.cons _ (.cons_cons _ (.cons_cons _ (.cons_cons _ (.cons_cons _ (.cons_cons _ (.cons_cons _ (.cons_cons _ (.cons_cons _ (.refl _)))))))))) ?_
                refine NX.sub (env' := [(3, _), (6, _), (7, _), (8, _), (9, _), (23, _), (24, _), (25, _), (12, _)]) ⟨rfl, rfl, rfl, rfl, rfl, rfl, rfl, rfl, rfl, trivial⟩ ?_
                exact hk90 _ _ ⟨_, _, _, _, rfl, rfl, hr⟩
              · have hr := cond_f hb hr
                obtain ⟨hq108, hr⟩ := guard_some hr; replace hq108 := of_decide_eq_true hq108
                refine Tr.region_f (fun i => Nat.beq i 6 || Nat.beq i 7) ?_
                refine W.q rfl rfl rfl rfl (by decide) (Yd.mv rfl (.t rfl)) ?_
                refine W.q rfl rfl rfl rfl (by decide) (Yd.fldB rfl Try.underlying46 rfl SZ3 rfl (.t rfl)) ?_
                refine W.q rfl rfl rfl rfl (by decide) (Yd.ldB (pos := 0) rfl rfl rfl ON3 (.t rfl)) ?_
                refine W.q rfl rfl rfl rfl (by decide) (Yd.mv rfl (.t rfl)) ?_
                refine W.q rfl rfl rfl rfl (by decide) (Yd.mv rfl (.t rfl)) ?_
                refine W.q rfl rfl rfl rfl (by decide) (Yd.bld (cells := [.int .i64 y81.by_, .int .i64 y81.label.level, .int .u32 (y81.label.parts.toNat : Int)]) rfl ZI68 PL68 (.cons (.t rfl) (.cons (.t rfl) (.cons (.t rfl) .nil))) rfl) ?_
                refine W.e rfl rfl rfl rfl (by decide) (Ef.bsT (enc := Edge.enc) (vs := [_]) (ys := [({ src := y81.by_, to := y81.label.level, rights := y81.label.parts } : Edge)]) (fun _ => rfl) IF68 rfl Try.underlying22 (by decide) rfl (.cons (.t rfl) .nil) rfl rfl (by decide)) ?_
                rintro v105 _ rfl
                refine ⟨.inl rfl, ?_⟩
                refine W.cast (m' := m) (l' := hownT 68 3 Edge.enc v105 _ :: hcells b83 [_, _, _, _, _, _] 46 :: hownT 68 3 Edge.enc v23 _ :: hcells b9 [_, _, _] 26 :: hownT 68 3 Edge.enc (.slice none 0 0) (([] : List Edge)) :: hownT 27 1 encI v25 _ :: hcells b5 [_, _, _] 26 :: hcells b3 [_] 3 :: hownT 68 3 Edge.enc (.slice none 0 0) (([] : List Edge)) :: hownT 27 1 encI (.slice none 0 0) (([] : List Int)) :: l) rfl rfl ?_
                refine W.e rfl rfl rfl rfl (by decide) (Ef.apI (pos := 2) (enc := Edge.enc) (xs := l22) (ys := ([({ src := y81.by_, to := y81.label.level, rights := y81.label.parts } : Edge)] : List Edge)) (fun _ => rfl) IF68 rfl rfl Try.underlying22 rfl (by decide) (.t rfl) (.t rfl) (Src.own (pos := 0) rfl) (fun _ => rfl) (by omega) (by omega)) ?_
                rintro v107 _ rfl
                refine ⟨.inl rfl, ?_⟩
                refine W.cast (m' := m) (l' := hownT 68 3 Edge.enc v105 _ :: hcells b83 [_, _, _, _, _, _] 46 :: hownT 68 3 Edge.enc v107 _ :: hcells b9 [_, _, _] 26 :: hownT 68 3 Edge.enc (.slice none 0 0) (([] : List Edge)) :: hownT 27 1 encI v25 _ :: hcells b5 [_, _, _] 26 :: hcells b3 [_] 3 :: hownT 68 3 Edge.enc (.slice none 0 0) (([] : List Edge)) :: hownT 27 1 encI (.slice none 0 0) (([] : List Int)) :: l) rfl rfl ?_
                refine W.q rfl rfl rfl rfl (by decide) (Yd.as rfl (.t rfl)) ?_
                refine W.end ?_
                refine NX.sub (env' := [(3, _), (6, _), (7, _), (8, _), (9, _), (23, _), (24, _), (25, _), (12, _)]) ⟨rfl, rfl, rfl, rfl, rfl, rfl, rfl, rfl, rfl, trivial⟩ ?_
                refine NX.drop (l' := hownT 68 3 Edge.enc v107 _ :: hcells b9 [_, _, _] 26 :: hownT 68 3 Edge.enc (.slice none 0 0) (([] : List Edge)) :: hownT 27 1 encI v25 _ :: hcells b5 [_, _, _] 26 :: hcells b3 [_] 3 :: hownT 68 3 Edge.enc (.slice none 0 0) (([] : List Edge)) :: hownT 27 1 encI (.slice none 0 0) (([] : List Int)) :: l) (.cons _ (.cons _ (.cons_cons _ (.cons_cons _ (.cons_cons _ (.cons_cons _ (.cons_cons _ (.cons_cons _ (.cons_cons _ (.cons_cons _ (.refl _))))))))))) ?_
                refine NX.sub (env' := [(3, _), (6, _), (7, _), (8, _), (9, _), (23, _), (24, _), (25, _), (12, _)]) ⟨rfl, rfl, rfl, rfl, rfl, rfl, rfl, rfl, rfl, trivial⟩ ?_
                exact hk90 _ _ ⟨_, _, _, _, rfl, rfl, hr⟩
            · have hr := cond_f hb hr
              refine Tr.seq ?_
              refine Tr.region_f (fun _ => false) ?_
              refine W.q rfl rfl rfl rfl (by decide) (Yd.fldB rfl Try.underlying46 rfl SZ3 rfl (.t rfl)) ?_
              refine W.q rfl rfl rfl rfl (by decide) (Yd.ldB (pos := 0) rfl rfl rfl ON3 (.t rfl)) ?_
              refine W.q rfl rfl rfl rfl (by decide) (Yd.eql rfl (.t rfl) .c) ?_
              refine W.end ?_
              refine NX.sub (env' := [(3, _), (6, _), (7, _), (8, _), (9, _), (23, _), (24, _), (25, _), (11, _), (12, _), (13, _), (14, _), (134, _)]) ⟨rfl, rfl, rfl, rfl, rfl, rfl, rfl, rfl, rfl, rfl, rfl, rfl, rfl, trivial⟩ ?_
              refine NX.then ?_
              refine Tr.cond (.t rfl) (fun hb => ?_) (fun hb => ?_)
              · have hr := cond_t hb hr
                refine Tr.seq ?_
                obtain ⟨r109, hr110, hr⟩ := bind_some hr
                obtain ⟨r111, hr112, hr⟩ := bind_some hr
                obtain ⟨ha113, hr⟩ := guard_some hr
                obtain ⟨ha114, hr⟩ := guard_some hr
                refine Tr.region_f (fun _ => false) ?_
                refine W.q rfl rfl rfl rfl (by decide) (Yd.mv rfl (.t rfl)) ?_
                refine W.q rfl rfl rfl rfl (by decide) (Yd.fldB rfl Try.underlying46 rfl SZ3 rfl (.t rfl)) ?_
                refine W.q rfl rfl rfl rfl (by decide) (Yd.ldB (pos := 0) rfl rfl rfl ON3 (.t rfl)) ?_
                refine W.q rfl rfl rfl rfl (by decide) (Yd.fldB rfl Try.underlying46 rfl SZ3 rfl (.t rfl)) ?_
                refine W.q rfl rfl rfl rfl (by decide) (Yd.ldB (pos := 0) rfl rfl rfl ON3 (.t rfl)) ?_
                refine W.q rfl rfl rfl rfl (by decide) (Yd.call (v := .int .u32 (r109.toNat : Int)) rfl Try.func17 rfl rfl (.cons (.t rfl) (.cons (.t rfl) (.cons (.t rfl) .nil))) (by intro x' hx w hw; obtain ⟨p0, hp0⟩ := hx.at (p := 1) rfl; obtain ⟨m2, hm2, hc2, ⟨L2, hl1, hl2⟩, hback⟩ := cX_lend hw hp0 lone_own; have hL1 : RS rEdge m2 _ _ := RS_of_own hl1 hl2; exact (syllogistref_Over_ok w0 m2 _ _ _ hL1 y81.by_ y81.to _ hr110 w hc2).mono fun e w' ⟨he, hc'⟩ => ⟨he, (hback m2 _ _ w' (.refl _) hp0).2 hc'⟩)) ?_
                refine W.q rfl rfl rfl rfl (by decide) (Yd.call (v := .bool r111) rfl Try.func16 rfl rfl (.cons .c (.cons (.t rfl) .nil)) (fun x' hx w hw => syllogistref_In_ok w0 x'.m x'.l (2#32) r109 _ hr112 w hw)) ?_
                refine W.q rfl rfl rfl rfl (by decide) (Yd.not rfl (.t rfl)) ?_
                refine W.q rfl rfl rfl rfl (by decide) (Yd.mv rfl (.t rfl)) ?_
                refine W.g rfl rfl rfl rfl rfl (.t rfl _) rfl (by decide) (fun hG => Yd.mv rfl (.t rfl)) ?_
                refine W.g rfl rfl rfl rfl rfl (.t rfl _) rfl (by decide) (fun hG => Yd.mv rfl (.t rfl)) ?_
                refine W.g rfl rfl rfl rfl rfl (.t rfl _) rfl (by decide) (fun hG => Yd.fldB rfl Try.underlying46 rfl SZ3 rfl (.t rfl)) ?_
                refine W.g rfl rfl rfl rfl rfl (.t rfl _) rfl (by decide) (fun hG => Yd.ldB (pos := 0) rfl rfl rfl ON3 (.g rfl hG)) ?_
                refine W.g rfl rfl rfl rfl rfl (.t rfl _) rfl (by decide) (fun hG => Yd.mv rfl (.t rfl)) ?_
                refine W.g rfl rfl rfl rfl rfl (.t rfl _) rfl (by decide) (fun hG => Yd.call (v := .int .u32 (((((syllogistref_Over l22 y81.by_ y81.label.level).getD (0#32)))).toNat : Int)) rfl Try.func17 rfl rfl (.cons (.g rfl hG) (.cons (.g rfl hG) (.cons (.g rfl hG) .nil))) (by intro x' hx w hw; obtain ⟨p0, hp0⟩ := hx.at (p := 1) rfl; obtain ⟨m2, hm2, hc2, ⟨L2, hl1, hl2⟩, hback⟩ := cX_lend hw hp0 lone_own; have hL1 : RS rEdge m2 _ _ := RS_of_own hl1 hl2; exact (syllogistref_Over_ok w0 m2 _ _ _ hL1 y81.by_ y81.label.level _ (gd_get (d := (0#32)) ha113 hG) w hc2).mono fun e w' ⟨he, hc'⟩ => ⟨he, (hback m2 _ _ w' (.refl _) hp0).2 hc'⟩)) ?_
                refine W.g rfl rfl rfl rfl rfl (.t rfl _) rfl (by decide) (fun hG => Yd.call (v := .bool ((((syllogistref_In y81.label.parts ((((syllogistref_Over l22 y81.by_ y81.label.level).getD (0#32))))).getD false)))) rfl Try.func16 rfl rfl (.cons (.g rfl hG) (.cons (.g rfl hG) .nil)) (fun x' hx w hw => syllogistref_In_ok w0 x'.m x'.l y81.label.parts ((((syllogistref_Over l22 y81.by_ y81.label.level).getD (0#32)))) _ (gd_get (d := false) ha114 hG) w hw)) ?_
                refine W.g rfl rfl rfl rfl rfl (.t rfl _) rfl (by decide) (fun hG => Yd.not rfl (.g rfl hG)) ?_
                refine W.q rfl rfl rfl rfl (by decide) (Yd.or rfl (.t rfl) .c rfl rfl) ?_
                refine W.end ?_
                refine NX.sub (env' := [(3, _), (6, _), (7, _), (8, _), (9, _), (23, _), (24, _), (25, _), (11, _), (12, _), (13, _), (14, _), (152, _)]) ⟨rfl, rfl, rfl, rfl, rfl, rfl, rfl, rfl, rfl, rfl, rfl, rfl, rfl, trivial⟩ ?_
                refine NX.then ?_
                refine Tr.cond (.t rfl) (fun hb => ?_) (fun hb => ?_)
                · have hr := cond_t hb hr
                  refine Tr.region_f (fun _ => false) ?_
                  refine W.q rfl rfl rfl rfl (by decide) (Yd.as rfl .c) ?_
                  refine W.end ?_
                  refine NX.sub (env' := [(3, _), (6, _), (7, _), (8, _), (9, _), (23, _), (24, _), (25, _), (12, _)]) ⟨rfl, rfl, rfl, rfl, rfl, rfl, rfl, rfl, rfl, trivial⟩ ?_
                  refine NX.drop (l' := hownT 68 3 Edge.enc v23 _ :: hcells b9 [_, _, _] 26 :: hownT 68 3 Edge.enc (.slice none 0 0) (([] : List Edge)) :: hownT 27 1 encI v25 _ :: hcells b5 [_, _, _] 26 :: hcells b3 [_] 3 :: hownT 68 3 Edge.enc (.slice none 0 0) (([] : List Edge)) :: hownT 27 1 encI (.slice none 0 0) (([] : List Int)) :: l) (.cons _ (.cons_cons _ (.cons_cons _ (.cons_cons _ (.cons_cons _ (.cons_cons _ (.cons_cons _ (.cons_cons _ (.cons_cons _ (.refl _)))))))))) ?_
                  refine NX.sub (env' := [(3, _), (6, _), (7, _), (8, _), (9, _), (23, _), (24, _), (25, _), (12, _)]) ⟨rfl, rfl, rfl, rfl, rfl, rfl, rfl, rfl, rfl, trivial⟩ ?_
                  exact hk90 _ _ ⟨_, _, _, _, rfl, rfl, hr⟩
                · have hr := cond_f hb hr
                  obtain ⟨hq118, hr⟩ := guard_some hr; replace hq118 := of_decide_eq_true hq118
                  refine Tr.region_f (fun i => Nat.beq i 6 || Nat.beq i 7) ?_
                  refine W.q rfl rfl rfl rfl (by decide) (Yd.mv rfl (.t rfl)) ?_
                  refine W.q rfl rfl rfl rfl (by decide) (Yd.fldB rfl Try.underlying46 rfl SZ3 rfl (.t rfl)) ?_
                  refine W.q rfl rfl rfl rfl (by decide) (Yd.ldB (pos := 0) rfl rfl rfl ON3 (.t rfl)) ?_
                  refine W.q rfl rfl rfl rfl (by decide) (Yd.mv rfl (.t rfl)) ?_
                  refine W.q rfl rfl rfl rfl (by decide) (Yd.mv rfl (.t rfl)) ?_
                  refine W.q rfl rfl rfl rfl (by decide) (Yd.bld (cells := [.int .i64 y81.to, .int .i64 y81.label.level, .int .u32 (y81.label.parts.toNat : Int)]) rfl ZI68 PL68 (.cons (.t rfl) (.cons (.t rfl) (.cons (.t rfl) .nil))) rfl) ?_
                  refine W.e rfl rfl rfl rfl (by decide) (Ef.bsT (enc := Edge.enc) (vs := [_]) (ys := [({ src := y81.to, to := y81.label.level, rights := y81.label.parts } : Edge)]) (fun _ => rfl) IF68 rfl Try.underlying22 (by decide) rfl (.cons (.t rfl) .nil) rfl rfl (by decide)) ?_
                  rintro v115 _ rfl
                  refine ⟨.inl rfl, ?_⟩
                  refine W.cast (m' := m) (l' := hownT 68 3 Edge.enc v115 _ :: hcells b83 [_, _, _, _, _, _] 46 :: hownT 68 3 Edge.enc v23 _ :: hcells b9 [_, _, _] 26 :: hownT 68 3 Edge.enc (.slice none 0 0) (([] : List Edge)) :: hownT 27 1 encI v25 _ :: hcells b5 [_, _, _] 26 :: hcells b3 [_] 3 :: hownT 68 3 Edge.enc (.slice none 0 0) (([] : List Edge)) :: hownT 27 1 encI (.slice none 0 0) (([] : List Int)) :: l) rfl rfl ?_
                  refine W.e rfl rfl rfl rfl (by decide) (Ef.apI (pos := 2) (enc := Edge.enc) (xs := l22) (ys := ([({ src := y81.to, to := y81.label.level, rights := y81.label.parts } : Edge)] : List Edge)) (fun _ => rfl) IF68 rfl rfl Try.underlying22 rfl (by decide) (.t rfl) (.t rfl) (Src.own (pos := 0) rfl) (fun _ => rfl) (by omega) (by omega)) ?_
                  rintro v117 _ rfl
                  refine ⟨.inl rfl, ?_⟩
                  refine W.cast (m' := m) (l' := hownT 68 3 Edge.enc v115 _ :: hcells b83 [_, _, _, _, _, _] 46 :: hownT 68 3 Edge.enc v117 _ :: hcells b9 [_, _, _] 26 :: hownT 68 3 Edge.enc (.slice none 0 0) (([] : List Edge)) :: hownT 27 1 encI v25 _ :: hcells b5 [_, _, _] 26 :: hcells b3 [_] 3 :: hownT 68 3 Edge.enc (.slice none 0 0) (([] : List Edge)) :: hownT 27 1 encI (.slice none 0 0) (([] : List Int)) :: l) rfl rfl ?_
                  refine W.q rfl rfl rfl rfl (by decide) (Yd.as rfl (.t rfl)) ?_
                  refine W.end ?_
                  refine NX.sub (env' := [(3, _), (6, _), (7, _), (8, _), (9, _), (23, _), (24, _), (25, _), (12, _)]) ⟨rfl, rfl, rfl, rfl, rfl, rfl, rfl, rfl, rfl, trivial⟩ ?_
                  refine NX.drop (l' := hownT 68 3 Edge.enc v117 _ :: hcells b9 [_, _, _] 26 :: hownT 68 3 Edge.enc (.slice none 0 0) (([] : List Edge)) :: hownT 27 1 encI v25 _ :: hcells b5 [_, _, _] 26 :: hcells b3 [_] 3 :: hownT 68 3 Edge.enc (.slice none 0 0) (([] : List Edge)) :: hownT 27 1 encI (.slice none 0 0) (([] : List Int)) :: l) (.cons _ (.cons _ (.cons_cons _ (.cons_cons _ (.cons_cons _ (.cons_cons _ (.cons_cons _ (.cons_cons _ (.cons_cons _ (.cons_cons _ (.refl _))))))))))) ?_
                  refine NX.sub (env' := [(3, _), (6, _), (7, _), (8, _), (9, _), (23, _), (24, _), (25, _), (12, _)]) ⟨rfl, rfl, rfl, rfl, rfl, rfl, rfl, rfl, rfl, trivial⟩ ?_
                  exact hk90 _ _ ⟨_, _, _, _, rfl, rfl, hr⟩
              · have hr := cond_f hb hr
                refine Tr.seq ?_
                refine Tr.region_f (fun _ => false) ?_
                refine W.q rfl rfl rfl rfl (by decide) (Yd.fldB rfl Try.underlying46 rfl SZ3 rfl (.t rfl)) ?_
                refine W.q rfl rfl rfl rfl (by decide) (Yd.ldB (pos := 0) rfl rfl rfl ON3 (.t rfl)) ?_
                refine W.q rfl rfl rfl rfl (by decide) (Yd.eql rfl (.t rfl) .c) ?_
                refine W.end ?_
                refine NX.sub (env' := [(3, _), (6, _), (7, _), (8, _), (9, _), (23, _), (24, _), (25, _), (11, _), (12, _), (14, _), (163, _)]) ⟨rfl, rfl, rfl, rfl, rfl, rfl, rfl, rfl, rfl, rfl, rfl, rfl, trivial⟩ ?_
                refine NX.then ?_
                refine Tr.cond (.t rfl) (fun hb => ?_) (fun hb => ?_)
                · have hr := cond_t hb hr
                  refine Tr.seq ?_
                  refine Tr.region_f (fun _ => false) ?_
                  refine W.q rfl rfl rfl rfl (by decide) (Yd.ldB (pos := 6) rfl rfl rfl ON3 (.t rfl)) ?_
                  refine W.q rfl rfl rfl rfl (by decide) (Yd.geq rfl (.t rfl) .c) ?_
                  refine W.end ?_
                  refine NX.sub (env' := [(3, _), (6, _), (7, _), (8, _), (9, _), (23, _), (24, _), (25, _), (11, _), (12, _), (165, _)]) ⟨rfl, rfl, rfl, rfl, rfl, rfl, rfl, rfl, rfl, rfl, rfl, trivial⟩ ?_
                  refine NX.then ?_
                  refine Tr.cond (.t rfl) (fun hb => ?_) (fun hb => ?_)
                  · have hr := cond_t hb hr
                    refine Tr.region_f (fun _ => false) ?_
                    refine W.q rfl rfl rfl rfl (by decide) (Yd.as rfl .c) ?_
                    refine W.end ?_
                    refine NX.sub (env' := [(3, _), (6, _), (7, _), (8, _), (9, _), (23, _), (24, _), (25, _), (12, _)]) ⟨rfl, rfl, rfl, rfl, rfl, rfl, rfl, rfl, rfl, trivial⟩ ?_
                    refine NX.drop (l' := hownT 68 3 Edge.enc v23 _ :: hcells b9 [_, _, _] 26 :: hownT 68 3 Edge.enc (.slice none 0 0) (([] : List Edge)) :: hownT 27 1 encI v25 _ :: hcells b5 [_, _, _] 26 :: hcells b3 [_] 3 :: hownT 68 3 Edge.enc (.slice none 0 0) (([] : List Edge)) :: hownT 27 1 encI (.slice none 0 0) (([] : List Int)) :: l) (.cons _ (.cons_cons _ (.cons_cons _ (.cons_cons _ (.cons_cons _ (.cons_cons _ (.cons_cons _ (.cons_cons _ (.cons_cons _ (.refl _)))))))))) ?_
                    refine NX.sub (env' := [(3, _), (6, _), (7, _), (8, _), (9, _), (23, _), (24, _), (25, _), (12, _)]) ⟨rfl, rfl, rfl, rfl, rfl, rfl, rfl, rfl, rfl, trivial⟩ ?_
                    exact hk90 _ _ ⟨_, _, _, _, rfl, rfl, hr⟩
                  · have hr := cond_f hb hr
                    refine Tr.seq ?_
                    obtain ⟨hq122, hr⟩ := guard_some hr; replace hq122 := of_decide_eq_true hq122
                    refine Tr.region_f (fun i => Nat.beq i 5 || Nat.beq i 6) ?_
                    refine W.q rfl rfl rfl rfl (by decide) (Yd.mv rfl (.t rfl)) ?_
                    refine W.q rfl rfl rfl rfl (by decide) (Yd.fldB rfl Try.underlying46 rfl SZ3 rfl (.t rfl)) ?_
                    refine W.q rfl rfl rfl rfl (by decide) (Yd.ldB (pos := 0) rfl rfl rfl ON3 (.t rfl)) ?_
                    refine W.q rfl rfl rfl rfl (by decide) (Yd.ldB (pos := 6) rfl rfl rfl ON3 (.t rfl)) ?_
                    refine W.q rfl rfl rfl rfl (by decide) (Yd.bld (cells := [.int .i64 y81.by_, .int .i64 c26, .int .u32 ((3#32).toNat : Int)]) rfl ZI68 PL68 (.cons (.t rfl) (.cons (.t rfl) (.cons .c .nil))) rfl) ?_
                    refine W.e rfl rfl rfl rfl (by decide) (Ef.bsT (enc := Edge.enc) (vs := [_]) (ys := [({ src := y81.by_, to := c26, rights := 3#32 } : Edge)]) (fun _ => rfl) IF68 rfl Try.underlying22 (by decide) rfl (.cons (.t rfl) .nil) rfl rfl (by decide)) ?_
                    rintro v119 _ rfl
                    refine ⟨.inl rfl, ?_⟩
                    refine W.cast (m' := m) (l' := hownT 68 3 Edge.enc v119 _ :: hcells b83 [_, _, _, _, _, _] 46 :: hownT 68 3 Edge.enc v23 _ :: hcells b9 [_, _, _] 26 :: hownT 68 3 Edge.enc (.slice none 0 0) (([] : List Edge)) :: hownT 27 1 encI v25 _ :: hcells b5 [_, _, _] 26 :: hcells b3 [_] 3 :: hownT 68 3 Edge.enc (.slice none 0 0) (([] : List Edge)) :: hownT 27 1 encI (.slice none 0 0) (([] : List Int)) :: l) rfl rfl ?_
                    refine W.e rfl rfl rfl rfl (by decide) (Ef.apI (pos := 2) (enc := Edge.enc) (xs := l22) (ys := ([({ src := y81.by_, to := c26, rights := 3#32 } : Edge)] : List Edge)) (fun _ => rfl) IF68 rfl rfl Try.underlying22 rfl (by decide) (.t rfl) (.t rfl) (Src.own (pos := 0) rfl) (fun _ => rfl) (by omega) (by omega)) ?_
                    rintro v121 _ rfl
                    refine ⟨.inl rfl, ?_⟩
                    refine W.cast (m' := m) (l' := hownT 68 3 Edge.enc v119 _ :: hcells b83 [_, _, _, _, _, _] 46 :: hownT 68 3 Edge.enc v121 _ :: hcells b9 [_, _, _] 26 :: hownT 68 3 Edge.enc (.slice none 0 0) (([] : List Edge)) :: hownT 27 1 encI v25 _ :: hcells b5 [_, _, _] 26 :: hcells b3 [_] 3 :: hownT 68 3 Edge.enc (.slice none 0 0) (([] : List Edge)) :: hownT 27 1 encI (.slice none 0 0) (([] : List Int)) :: l) rfl rfl ?_
                    refine W.q rfl rfl rfl rfl (by decide) (Yd.as rfl (.t rfl)) ?_
                    refine W.end ?_
                    refine NX.sub (env' := [(3, _), (6, _), (7, _), (8, _), (9, _), (23, _), (24, _), (25, _), (12, _)]) ⟨rfl, rfl, rfl, rfl, rfl, rfl, rfl, rfl, rfl, trivial⟩ ?_
                    refine NX.drop (l' := hownT 68 3 Edge.enc v121 _ :: hcells b9 [_, _, _] 26 :: hownT 68 3 Edge.enc (.slice none 0 0) (([] : List Edge)) :: hownT 27 1 encI v25 _ :: hcells b5 [_, _, _] 26 :: hcells b3 [_] 3 :: hownT 68 3 Edge.enc (.slice none 0 0) (([] : List Edge)) :: hownT 27 1 encI (.slice none 0 0) (([] : List Int)) :: l) (.cons _ (.cons _ (.cons_cons _ (.cons_cons _ (.cons_cons _ (.cons_cons _ (.cons_cons _ (.cons_cons _ (.cons_cons _ (.cons_cons _ (.refl _))))))))))) ?_
                    refine NX.then ?_
                    refine Tr.region_f (fun i => Nat.beq i 2) ?_
                    refine W.q rfl rfl rfl rfl (by decide) (Yd.ldB (pos := 5) rfl rfl rfl ON3 (.t rfl)) ?_
                    refine W.q rfl rfl rfl rfl (by decide) (Yd.add rfl (.t rfl) .c) ?_
                    refine W.s rfl rfl rfl rfl (Ef.stB (pos := 5) (us := [_]) (cs' := [_]) rfl rfl (.t rfl) (.t rfl) SZ3 rfl rfl rfl (Nat.le_of_ble_eq_true rfl) rfl) ?_
                    rintro _ _ ⟨rfl, rfl⟩
                    refine ⟨.inl rfl, ?_⟩
                    refine W.cast (m' := m) (l' := hownT 68 3 Edge.enc v121 _ :: hcells b9 [_, _, _] 26 :: hownT 68 3 Edge.enc (.slice none 0 0) (([] : List Edge)) :: hownT 27 1 encI v25 _ :: hcells b5 [_, _, _] 26 :: hcells b3 [_] 3 :: hownT 68 3 Edge.enc (.slice none 0 0) (([] : List Edge)) :: hownT 27 1 encI (.slice none 0 0) (([] : List Int)) :: l) rfl rfl ?_
                    refine W.end ?_
                    refine NX.sub (env' := [(3, _), (6, _), (7, _), (8, _), (9, _), (23, _), (24, _), (25, _), (12, _)]) ⟨rfl, rfl, rfl, rfl, rfl, rfl, rfl, rfl, rfl, trivial⟩ ?_
                    refine NX.sub (env' := [(3, _), (6, _), (7, _), (8, _), (9, _), (23, _), (24, _), (25, _), (12, _)]) ⟨rfl, rfl, rfl, rfl, rfl, rfl, rfl, rfl, rfl, trivial⟩ ?_
                    exact hk90 _ _ ⟨_, _, _, _, rfl, rfl, hr⟩
                · have hr := cond_f hb hr
                  refine Tr.seq ?_
                  refine Tr.region_f (fun _ => false) ?_
                  refine W.q rfl rfl rfl rfl (by decide) (Yd.as rfl .c) ?_
                  refine W.end ?_
                  refine NX.sub (env' := [(3, _), (6, _), (7, _), (8, _), (9, _), (23, _), (24, _), (25, _), (11, _), (12, _), (14, _), (15, _)]) ⟨rfl, rfl, rfl, rfl, rfl, rfl, rfl, rfl, rfl, rfl, rfl, rfl, trivial⟩ ?_
                  refine NX.then ?_
                  refine Tr.join (S := fun env x => ∃ l129 : List Edge, ∃ v130 : Value, env = [(3, bp b3 0), (6, bp b5 0), (7, bp b9 0), (8, v130), (9, .func (.func 24) #[] #[bp b3 0]), (23, uscript_2), (24, .int .i64 ((script_2.length : Int))), (25, .int .i64 t_77), (12, .int .i64 ((0 : Int)))] ∧ x = ⟨m, hownT 68 3 Edge.enc v130 l129 :: hcells b9 [v25, .int .i64 ((0 : Int)), (.slice none 0 0)] 26 :: hownT 68 3 Edge.enc (.slice none 0 0) (([] : List Edge)) :: hownT 27 1 encI v25 l24 :: hcells b5 [(.slice none 0 0), .int .i64 ((0 : Int)), (.slice none 0 0)] 26 :: hcells b3 [.int .i64 c26] 3 :: hownT 68 3 Edge.enc (.slice none 0 0) (([] : List Edge)) :: hownT 27 1 encI (.slice none 0 0) (([] : List Int)) :: l⟩ ∧ syllogistref_Grant_k131 l24 c26 nx79 l129 = some r) ?_ (fun hk132 => ?_)
                  · rintro _ _ ⟨l129, v130, rfl, rfl, hr⟩
                    unfold syllogistref_Grant_k131 at hr
                    try dsimp only at hr
                    refine NX.sub (env' := [(3, _), (6, _), (7, _), (8, _), (9, _), (23, _), (24, _), (25, _), (12, _)]) ⟨rfl, rfl, rfl, rfl, rfl, rfl, rfl, rfl, rfl, trivial⟩ ?_
                    exact hk90 _ _ ⟨_, _, _, _, rfl, rfl, hr⟩
                  refine Tr.block ?_
                  refine Tr.sub (env' := [(3, _), (6, _), (7, _), (8, _), (9, _), (11, _), (12, _), (14, _), (15, _), (23, _), (24, _), (25, _)]) ⟨rfl, rfl, rfl, rfl, rfl, rfl, rfl, rfl, rfl, rfl, rfl, rfl, trivial⟩ ?_
                  refine Tr.loop (S := fun n (z : Int × (List Edge)) env x => match z with | (i_126, l127) => ∃ v128 : Value, env = [(3, bp b3 0), (6, bp b5 0), (7, bp b9 0), (8, v128), (9, .func (.func 24) #[] #[bp b3 0]), (11, bp b83 0), (12, .int .i64 ((0 : Int))), (14, .int .u32 (y81.label.parts.toNat : Int)), (15, .int .i64 i_126), (23, uscript_2), (24, .int .i64 ((script_2.length : Int))), (25, .int .i64 t_77)] ∧ x = ⟨m, hcells b83 [.int .i64 y81.kind, .int .i64 y81.by_, .int .i64 y81.to, .int .i64 y81.label.level, .int .u32 (y81.label.parts.toNat : Int), .int .i64 y81.val] 46 :: hownT 68 3 Edge.enc v128 l127 :: hcells b9 [v25, .int .i64 ((0 : Int)), (.slice none 0 0)] 26 :: hownT 68 3 Edge.enc (.slice none 0 0) (([] : List Edge)) :: hownT 27 1 encI v25 l24 :: hcells b5 [(.slice none 0 0), .int .i64 ((0 : Int)), (.slice none 0 0)] 26 :: hcells b3 [.int .i64 c26] 3 :: hownT 68 3 Edge.enc (.slice none 0 0) (([] : List Edge)) :: hownT 27 1 encI (.slice none 0 0) (([] : List Int)) :: l⟩ ∧ whileK (σ := Int × (List Edge)) (fun s nx_ => syllogistref_Grant_b133 l24 c26 nx79 y81 s.1 s.2 nx_) n (i_126, l127) = some r) _ ((0 : Int), l22) ⟨_, rfl, rfl, hr⟩ ?_
                  rintro n135 ⟨i_126, l127⟩ env x ⟨v128, rfl, rfl, hr⟩
                  cases n135 with
                  | zero => simp [whileK] at hr
                  | succ n135 =>
                    obtain ⟨nx134, hnx134, hr⟩ := whileK_succ hr
                    try dsimp only at hr
                    unfold syllogistref_Grant_b133 at hr
                    try dsimp only at hr
                    refine Tr.seq ?_
                    refine Tr.seq ?_
                    refine Tr.region_f (fun _ => false) ?_
                    refine W.q rfl rfl rfl rfl (by decide) (Yd.mv rfl (.t rfl)) ?_
                    refine W.q rfl rfl rfl rfl (by decide) (Yd.mv rfl (.t rfl)) ?_
                    refine W.q rfl rfl rfl rfl (by decide) (Yd.lenO (p := 1) rfl rfl Try.underlying22 (.t rfl)) ?_
                    refine W.q rfl rfl rfl rfl (by decide) (Yd.lss rfl (.t rfl) (.t rfl)) ?_
                    refine W.end ?_
                    refine NX.sub (env' := [(3, _), (6, _), (7, _), (8, _), (9, _), (11, _), (12, _), (14, _), (15, _), (23, _), (24, _), (25, _), (178, _)]) ⟨rfl, rfl, rfl, rfl, rfl, rfl, rfl, rfl, rfl, rfl, rfl, rfl, rfl, trivial⟩ ?_
                    refine NX.then ?_
                    refine Tr.cond (.t rfl) (fun hb => ?_) (fun hb => ?_)
                    · have hr := cond_t hb hr
                      refine Tr.skip' ?_
                      refine NX.then ?_
                      refine Tr.seq ?_
                      refine Tr.block ?_
                      refine Tr.seq ?_
                      obtain ⟨y136, hy137, hr⟩ := bind_some hr
                      refine Tr.region_x (fun _ => false) (fun _ => false) (Ord.of [0, 1, 2, 3, 4, 5, 6, 7, 8, 9, 10, 11, 12, 13, 14, 15, 16, 17]) FM (by kernel_rfl) ?_
                      refine W.q rfl rfl rfl rfl (by decide) (Yd.mv rfl (.t rfl)) ?_
                      refine W.q rfl rfl rfl rfl (by decide) (Yd.mv rfl (.t rfl)) ?_
                      refine W.q rfl rfl rfl rfl (by decide) (Yd.idxT (pos := 1) rfl hy137 rfl Try.underlying22 SZ68 (.t rfl) (.t rfl)) ?_
                      refine W.q rfl rfl rfl rfl (by decide) (Yd.fldT (pos := 1) rfl hy137 rfl Try.underlying68 rfl SZ3 rfl (.t rfl)) ?_
                      refine W.q rfl rfl rfl rfl (by decide) (Yd.ldTf (enc := Edge.enc) (n := 3) (pos := 1) (fun _ => rfl) rfl hy137 rfl rfl ON3 (.t rfl)) ?_
                      refine W.q rfl rfl rfl rfl (by decide) (Yd.fldB rfl Try.underlying46 rfl SZ3 rfl (.t rfl)) ?_
                      refine W.q rfl rfl rfl rfl (by decide) (Yd.ldB (pos := 0) rfl rfl rfl ON3 (.t rfl)) ?_
                      refine W.q rfl rfl rfl rfl (by decide) (Yd.eql rfl (.t rfl) (.t rfl)) ?_
                      refine W.q rfl rfl rfl rfl (by decide) (Yd.mv rfl (.t rfl)) ?_
                      refine W.g rfl rfl rfl rfl rfl (.t rfl _) rfl (by decide) (fun hG => Yd.mv rfl (.t rfl)) ?_
                      refine W.g rfl rfl rfl rfl rfl (.t rfl _) rfl (by decide) (fun hG => Yd.mv rfl (.t rfl)) ?_
                      refine W.g rfl rfl rfl rfl rfl (.t rfl _) rfl (by decide) (fun hG => Yd.idxT (pos := 1) rfl hy137 rfl Try.underlying22 SZ68 (.g rfl hG) (.g rfl hG)) ?_
                      refine W.g rfl rfl rfl rfl rfl (.t rfl _) rfl (by decide) (fun hG => Yd.fldT (pos := 1) rfl hy137 rfl Try.underlying68 rfl SZ3 rfl (.g rfl hG)) ?_
                      refine W.g rfl rfl rfl rfl rfl (.t rfl _) rfl (by decide) (fun hG => Yd.ldTf (enc := Edge.enc) (n := 3) (pos := 1) (fun _ => rfl) rfl hy137 rfl rfl ON3 (.g rfl hG)) ?_
                      refine W.g rfl rfl rfl rfl rfl (.t rfl _) rfl (by decide) (fun hG => Yd.fldB rfl Try.underlying46 rfl SZ3 rfl (.t rfl)) ?_
                      refine W.g rfl rfl rfl rfl rfl (.t rfl _) rfl (by decide) (fun hG => Yd.ldB (pos := 0) rfl rfl rfl ON3 (.g rfl hG)) ?_
                      refine W.g rfl rfl rfl rfl rfl (.t rfl _) rfl (by decide) (fun hG => Yd.eql rfl (.g rfl hG) (.g rfl hG)) ?_
                      refine W.q rfl rfl rfl rfl (by decide) (Yd.and rfl (.t rfl) .c rfl rfl) ?_
                      refine W.end ?_
                      refine NX.sub (env' := [(3, _), (6, _), (7, _), (8, _), (9, _), (11, _), (12, _), (14, _), (15, _), (23, _), (24, _), (25, _), (198, _)]) ⟨rfl, rfl, rfl, rfl, rfl, rfl, rfl, rfl, rfl, rfl, rfl, rfl, rfl, trivial⟩ ?_
                      refine NX.then ?_
                      refine Tr.cond (.t rfl) (fun hb => ?_) (fun hb => ?_)
                      · have hr := cond_t hb hr
                        obtain ⟨y138, hy139, hr⟩ := bind_some hr
                        refine Tr.region_f (fun i => Nat.beq i 11) ?_
                        refine W.q rfl rfl rfl rfl (by decide) (Yd.mv rfl (.t rfl)) ?_
                        refine W.q rfl rfl rfl rfl (by decide) (Yd.mv rfl (.t rfl)) ?_
                        refine W.q rfl rfl rfl rfl (by decide) (Yd.mv rfl (.t rfl)) ?_
                        refine W.q rfl rfl rfl rfl (by decide) (Yd.mv rfl (.t rfl)) ?_
                        refine W.q rfl rfl rfl rfl (by decide) (Yd.idxT (pos := 1) rfl hy139 rfl Try.underlying22 SZ68 (.t rfl) (.t rfl)) ?_
                        refine W.q rfl rfl rfl rfl (by decide) (Yd.fldT (pos := 1) rfl hy139 rfl Try.underlying68 rfl SZ35 rfl (.t rfl)) ?_
                        refine W.q rfl rfl rfl rfl (by decide) (Yd.ldTf (enc := Edge.enc) (n := 3) (pos := 1) (fun _ => rfl) rfl hy139 rfl rfl ON35 (.t rfl)) ?_
                        refine W.q rfl rfl rfl rfl (by decide) (Yd.mv rfl (.t rfl)) ?_
                        refine W.q rfl rfl rfl rfl (by decide) (Yd.andnU (a := y138.rights) (b := y81.label.parts) rfl (.t rfl) (.t rfl)) ?_
                        refine W.q rfl rfl rfl rfl (by decide) (Yd.idxT (pos := 1) rfl hy139 rfl Try.underlying22 SZ68 (.t rfl) (.t rfl)) ?_
                        refine W.q rfl rfl rfl rfl (by decide) (Yd.fldT (pos := 1) rfl hy139 rfl Try.underlying68 rfl SZ35 rfl (.t rfl)) ?_
                        refine W.s rfl rfl rfl rfl (Ef.stTf (enc := Edge.enc) (n := 3) (pos := 1) (y := ({ src := y138.src, to := y138.to, rights := (y138.rights &&& ~~~y81.label.parts) } : Edge)) (us := [_]) (fun _ => rfl) rfl hy139 rfl (.t rfl) (.t rfl) SZ35 rfl rfl rfl rfl (by decide) (Nat.le_of_ble_eq_true rfl)) ?_
                        rintro _ _ ⟨rfl, rfl⟩
                        refine ⟨.inl rfl, ?_⟩
                        refine W.cast (m' := m) (l' := hcells b83 [_, _, _, _, _, _] 46 :: hownT 68 3 Edge.enc v128 _ :: hcells b9 [_, _, _] 26 :: hownT 68 3 Edge.enc (.slice none 0 0) (([] : List Edge)) :: hownT 27 1 encI v25 _ :: hcells b5 [_, _, _] 26 :: hcells b3 [_] 3 :: hownT 68 3 Edge.enc (.slice none 0 0) (([] : List Edge)) :: hownT 27 1 encI (.slice none 0 0) (([] : List Int)) :: l) rfl rfl ?_
                        refine W.end ?_
                        refine NX.sub (env' := [(3, _), (6, _), (7, _), (8, _), (9, _), (11, _), (12, _), (14, _), (15, _), (23, _), (24, _), (25, _)]) ⟨rfl, rfl, rfl, rfl, rfl, rfl, rfl, rfl, rfl, rfl, rfl, rfl, trivial⟩ ?_
                        refine NX.block ?_
                        refine NX.then ?_
                        refine Tr.region_f (fun _ => false) ?_
                        refine W.q rfl rfl rfl rfl (by decide) (Yd.mv rfl (.t rfl)) ?_
                        refine W.q rfl rfl rfl rfl (by decide) (Yd.add rfl (.t rfl) .c) ?_
                        refine W.q rfl rfl rfl rfl (by decide) (Yd.as rfl (.t rfl)) ?_
                        refine W.end ?_
                        refine NX.sub (env' := [(3, _), (6, _), (7, _), (8, _), (9, _), (11, _), (12, _), (14, _), (15, _), (23, _), (24, _), (25, _)]) ⟨rfl, rfl, rfl, rfl, rfl, rfl, rfl, rfl, rfl, rfl, rfl, rfl, trivial⟩ ?_
                        refine NX.sub (env' := [(3, _), (6, _), (7, _), (8, _), (9, _), (11, _), (12, _), (14, _), (15, _), (23, _), (24, _), (25, _)]) ⟨rfl, rfl, rfl, rfl, rfl, rfl, rfl, rfl, rfl, rfl, rfl, rfl, trivial⟩ ?_
                        exact NX.again n135 ((w64 (i_126 + (1 : Int))), (l127.set i_126.toNat (({ src := y138.src, to := y138.to, rights := (y138.rights &&& ~~~y81.label.parts) } : Edge)))) (Nat.lt_succ_self _) ⟨_, rfl, rfl, ((hnx134 _).symm.trans hr)⟩
                      · have hr := cond_f hb hr
                        refine Tr.skip' ?_
                        refine NX.block ?_
                        refine NX.then ?_
                        refine Tr.region_f (fun _ => false) ?_
                        refine W.q rfl rfl rfl rfl (by decide) (Yd.mv rfl (.t rfl)) ?_
                        refine W.q rfl rfl rfl rfl (by decide) (Yd.add rfl (.t rfl) .c) ?_
                        refine W.q rfl rfl rfl rfl (by decide) (Yd.as rfl (.t rfl)) ?_
                        refine W.end ?_
                        refine NX.sub (env' := [(3, _), (6, _), (7, _), (8, _), (9, _), (11, _), (12, _), (14, _), (15, _), (23, _), (24, _), (25, _)]) ⟨rfl, rfl, rfl, rfl, rfl, rfl, rfl, rfl, rfl, rfl, rfl, rfl, trivial⟩ ?_
                        refine NX.sub (env' := [(3, _), (6, _), (7, _), (8, _), (9, _), (11, _), (12, _), (14, _), (15, _), (23, _), (24, _), (25, _)]) ⟨rfl, rfl, rfl, rfl, rfl, rfl, rfl, rfl, rfl, rfl, rfl, rfl, trivial⟩ ?_
                        exact NX.again n135 ((w64 (i_126 + (1 : Int))), l127) (Nat.lt_succ_self _) ⟨_, rfl, rfl, ((hnx134 _).symm.trans hr)⟩
                    · have hr := cond_f hb hr
                      refine Tr.exit' (EX.then (EX.then (EX.block ?_)))
                      refine NX.sub (env' := [(3, _), (6, _), (7, _), (8, _), (9, _), (23, _), (24, _), (25, _), (12, _)]) ⟨rfl, rfl, rfl, rfl, rfl, rfl, rfl, rfl, rfl, trivial⟩ ?_
                      refine NX.drop (l' := hownT 68 3 Edge.enc v128 _ :: hcells b9 [_, _, _] 26 :: hownT 68 3 Edge.enc (.slice none 0 0) (([] : List Edge)) :: hownT 27 1 encI v25 _ :: hcells b5 [_, _, _] 26 :: hcells b3 [_] 3 :: hownT 68 3 Edge.enc (.slice none 0 0) (([] : List Edge)) :: hownT 27 1 encI (.slice none 0 0) (([] : List Int)) :: l) (.cons _ (.cons_cons _ (.cons_cons _ (.cons_cons _ (.cons_cons _ (.cons_cons _ (.cons_cons _ (.cons_cons _ (.cons_cons _ (.refl _)))))))))) ?_
                      exact hk132 _ _ ⟨_, _, rfl, rfl, hr⟩

def syllogistref_Codes_k3 : Option (Bool) :=
  some true

def syllogistref_Codes_b7 (a_0 : List Int) (b_1 : List Int) (i_6 : Int) (nx8 : Unit → Option (Bool)) : Option (Bool) :=
  (geti a_0 i_6).bind fun y10 =>
  (geti b_1 i_6).bind fun y12 =>
  (bif (y10 != y12) then
  some false
  else
  nx8 ())

def syllogistref_Codes (a_0 : List Int) (b_1 : List Int) : Option (Bool) :=
  (bif ((a_0.length : Int) != (b_1.length : Int)) then
  some false
  else
  forK (σ := Unit) (fun i s nx_ => syllogistref_Codes_b7 a_0 b_1 i nx_) (fun _ => syllogistref_Codes_k3) ((a_0.length : Int) - (0 : Int)).toNat (0 : Int) ())

set_option maxRecDepth 100000 in
set_option maxHeartbeats 4000000 in
theorem syllogistref_Codes_ok (w0 : World) (m : Snap) (l : List HI) (ua_0 : Value) (a_0 : List Int) (ha_0 : RS rI m ua_0 a_0) (ub_1 : Value) (b_1 : List Int) (hb_1 : RS rI m ub_1 b_1) (r : Bool) (hr : syllogistref_Codes a_0 b_1 = some r) (w : World) (hc : cX w0 ⟨m, l⟩ w) :
    Calls Try.prog 10 [ua_0, ub_1].toArray w fun e w' => e = .returned (.bool r) ∧ cX w0 ⟨m, l⟩ w' := by
  unfold syllogistref_Codes at hr
  refine calls_of_Tr (N := 26) Try.func10 rfl hc rfl (Nat.le_of_ble_eq_true rfl) ?_
  refine Tr.seq ?_
  refine Tr.region_f (fun _ => false) ?_
  refine W.q rfl rfl rfl rfl (by decide) (Yd.as rfl .c) ?_
  refine W.end ?_
  refine NX.sub (env' := [(0, _), (1, _)]) ⟨rfl, rfl, trivial⟩ ?_
  refine NX.then ?_
  refine Tr.seq ?_
  refine Tr.seq ?_
  refine Tr.region_f (fun _ => false) ?_
  refine W.q rfl rfl rfl rfl (by decide) (Yd.mv rfl (.t rfl)) ?_
  refine W.q rfl rfl rfl rfl (by decide) (Yd.lenR ha_0 rfl Try.underlying24 (.t rfl)) ?_
  refine W.q rfl rfl rfl rfl (by decide) (Yd.mv rfl (.t rfl)) ?_
  refine W.q rfl rfl rfl rfl (by decide) (Yd.lenR hb_1 rfl Try.underlying24 (.t rfl)) ?_
  refine W.q rfl rfl rfl rfl (by decide) (Yd.neq rfl (.t rfl) (.t rfl)) ?_
  refine W.end ?_
  refine NX.sub (env' := [(0, _), (1, _), (10, _)]) ⟨rfl, rfl, rfl, trivial⟩ ?_
  refine NX.then ?_
  refine Tr.cond (.t rfl) (fun hb => ?_) (fun hb => ?_)
  · have hr := cond_t hb hr
    refine Tr.seq ?_
    refine Tr.region_f (fun _ => false) ?_
    refine W.q rfl rfl rfl rfl (by decide) (Yd.as rfl .c) ?_
    refine W.end ?_
    refine NX.sub (env' := [(4, _)]) ⟨rfl, trivial⟩ ?_
    refine NX.then ?_
    refine Tr.ret' (RT.then ?_)
    refine res1 rfl rfl ?_
    intro w hc
    cases hr
    exact ⟨rfl, hc⟩
  · have hr := cond_f hb hr
    refine Tr.skip' ?_
    refine NX.then ?_
    refine Tr.seq ?_
    refine Tr.seq ?_
    refine Tr.region_f (fun _ => false) ?_
    refine W.q rfl rfl rfl rfl (by decide) (Yd.as rfl .c) ?_
    refine W.end ?_
    refine NX.sub (env' := [(0, _), (1, _), (5, _)]) ⟨rfl, rfl, rfl, trivial⟩ ?_
    refine NX.then ?_
    refine Tr.join (S := fun env x => env = [] ∧ x = ⟨m, l⟩ ∧ syllogistref_Codes_k3 = some r) ?_ (fun hk4 => ?_)
    · rintro _ _ ⟨rfl, rfl, hr⟩
      unfold syllogistref_Codes_k3 at hr
      try dsimp only at hr
      refine NX.then ?_
      refine Tr.seq ?_
      refine Tr.region_f (fun _ => false) ?_
      refine W.q rfl rfl rfl rfl (by decide) (Yd.as rfl .c) ?_
      refine W.end ?_
      refine NX.sub (env' := [(4, _)]) ⟨rfl, trivial⟩ ?_
      refine NX.then ?_
      refine Tr.ret' ?_
      refine res1 rfl rfl ?_
      intro w hc
      cases hr
      exact ⟨rfl, hc⟩
    have hlen5 := (ha_0).2.1
    refine Tr.block ?_
    refine Tr.sub (env' := [(0, _), (1, _), (5, _)]) ⟨rfl, rfl, rfl, trivial⟩ ?_
    refine Tr.loop (S := fun n (z : Int × Unit) env x => match z with | (i_6, _) => env = [(0, ua_0), (1, ub_1), (5, .int .i64 i_6)] ∧ x = ⟨m, l⟩ ∧ n = ((a_0.length : Int) - i_6).toNat ∧ 0 ≤ i_6 ∧ forK (σ := Unit) (fun i s nx_ => syllogistref_Codes_b7 a_0 b_1 i nx_) (fun _ => syllogistref_Codes_k3) n i_6 () = some r) _ ((0 : Int), ()) ⟨rfl, rfl, rfl, (by omega), hr⟩ ?_
    rintro n9 ⟨i_6, _⟩ env x ⟨rfl, rfl, hni_6, h0i_6, hr⟩
    cases n9 with
    | zero =>
      simp only [forK] at hr
      refine Tr.seq ?_
      refine Tr.seq ?_
      refine Tr.region_f (fun _ => false) ?_
      refine W.q rfl rfl rfl rfl (by decide) (Yd.mv rfl (.t rfl)) ?_
      refine W.q rfl rfl rfl rfl (by decide) (Yd.mv rfl (.t rfl)) ?_
      refine W.q rfl rfl rfl rfl (by decide) (Yd.lenR ha_0 rfl Try.underlying24 (.t rfl)) ?_
      refine W.q rfl rfl rfl rfl (by decide) (Yd.lss rfl (.t rfl) (.t rfl)) ?_
      refine W.end ?_
      refine NX.sub (env' := [(0, _), (1, _), (5, _), (14, _)]) ⟨rfl, rfl, rfl, rfl, trivial⟩ ?_
      refine NX.then ?_
      refine Tr.cond (.t rfl) (fun hb => ?_) (fun hb => ?_)
      · exact absurd (hb.symm.trans (fr_end hni_6)) (by decide)
      ·
        refine Tr.exit' (EX.then (EX.then (EX.block ?_)))
        refine NX.sub (env' := []) trivial ?_
        exact hk4 _ _ ⟨rfl, rfl, hr⟩
    | succ n9 =>
      obtain ⟨nx8, hnx8, hr⟩ := forK_succ hr
      try dsimp only at hr
      unfold syllogistref_Codes_b7 at hr
      try dsimp only at hr
      have hlti_6 := fr_bnd hni_6
      refine Tr.seq ?_
      refine Tr.seq ?_
      refine Tr.region_f (fun _ => false) ?_
      refine W.q rfl rfl rfl rfl (by decide) (Yd.mv rfl (.t rfl)) ?_
      refine W.q rfl rfl rfl rfl (by decide) (Yd.mv rfl (.t rfl)) ?_
      refine W.q rfl rfl rfl rfl (by decide) (Yd.lenR ha_0 rfl Try.underlying24 (.t rfl)) ?_
      refine W.q rfl rfl rfl rfl (by decide) (Yd.lss rfl (.t rfl) (.t rfl)) ?_
      refine W.end ?_
      refine NX.sub (env' := [(0, _), (1, _), (5, _), (14, _)]) ⟨rfl, rfl, rfl, rfl, trivial⟩ ?_
      refine NX.then ?_
      refine Tr.cond (.t rfl) (fun hb => ?_) (fun hb => ?_)
      rotate_left
      · exact absurd (hb.symm.trans (fr_go hni_6)) (by decide)
      ·
        refine Tr.skip' ?_
        refine NX.then ?_
        refine Tr.seq ?_
        refine Tr.block ?_
        refine Tr.seq ?_
        obtain ⟨y10, hy11, hr⟩ := bind_some hr
        obtain ⟨y12, hy13, hr⟩ := bind_some hr
        refine Tr.region_x (fun _ => false) (fun _ => false) (Ord.of [0, 1, 2, 3, 4, 5, 6, 7, 8]) FM (by kernel_rfl) ?_
        refine W.q rfl rfl rfl rfl (by decide) (Yd.mv rfl (.t rfl)) ?_
        refine W.q rfl rfl rfl rfl (by decide) (Yd.mv rfl (.t rfl)) ?_
        refine W.q rfl rfl rfl rfl (by decide) (Yd.idxR ha_0 hy11 rfl Try.underlying24 SZ27 (.t rfl) (.t rfl)) ?_
        refine W.q rfl rfl rfl rfl (by decide) (Yd.ldF ha_0 (.refl _) hy11 rfl rfl ON27 (.t rfl)) ?_
        refine W.q rfl rfl rfl rfl (by decide) (Yd.mv rfl (.t rfl)) ?_
        refine W.q rfl rfl rfl rfl (by decide) (Yd.mv rfl (.t rfl)) ?_
        refine W.q rfl rfl rfl rfl (by decide) (Yd.idxR hb_1 hy13 rfl Try.underlying24 SZ27 (.t rfl) (.t rfl)) ?_
        refine W.q rfl rfl rfl rfl (by decide) (Yd.ldF hb_1 (.refl _) hy13 rfl rfl ON27 (.t rfl)) ?_
        refine W.q rfl rfl rfl rfl (by decide) (Yd.neq rfl (.t rfl) (.t rfl)) ?_
        refine W.end ?_
        refine NX.sub (env' := [(0, _), (1, _), (5, _), (25, _)]) ⟨rfl, rfl, rfl, rfl, trivial⟩ ?_
        refine NX.then ?_
        refine Tr.cond (.t rfl) (fun hb => ?_) (fun hb => ?_)
        · have hr := cond_t hb hr
          refine Tr.seq ?_
          refine Tr.region_f (fun _ => false) ?_
          refine W.q rfl rfl rfl rfl (by decide) (Yd.as rfl .c) ?_
          refine W.end ?_
          refine NX.sub (env' := [(4, _)]) ⟨rfl, trivial⟩ ?_
          refine NX.then ?_
          refine Tr.ret' (RT.block (RT.then (RT.then (RT.block (RT.then ?_)))))
          refine res1 rfl rfl ?_
          intro w hc
          cases hr
          exact ⟨rfl, hc⟩
        · have hr := cond_f hb hr
          refine Tr.skip' ?_
          refine NX.block ?_
          refine NX.then ?_
          refine Tr.region_f (fun _ => false) ?_
          refine W.q rfl rfl rfl rfl (by decide) (Yd.mv rfl (.t rfl)) ?_
          refine W.q rfl rfl rfl rfl (by decide) (Yd.add rfl (.t rfl) .c) ?_
          refine W.q rfl rfl rfl rfl (by decide) (Yd.as rfl (.t rfl)) ?_
          refine W.end ?_
          refine NX.sub (env' := [(0, _), (1, _), (5, _)]) ⟨rfl, rfl, rfl, trivial⟩ ?_
          refine NX.sub (env' := [(0, _), (1, _), (5, _)]) ⟨rfl, rfl, rfl, trivial⟩ ?_
          have hw := w64_id (n := i_6 + 1) (by omega) (by omega)
          exact NX.again n9 (i_6 + 1, ()) (Nat.lt_succ_self _) ⟨(by rw [hw] <;> rfl), rfl, (fr_dec hni_6), (by omega), ((hnx8 _).symm.trans hr)⟩

def syllogistref_Edges_k3 : Option (Bool) :=
  some true

def syllogistref_Edges_b7 (a_0 : List Edge) (b_1 : List Edge) (i_6 : Int) (nx8 : Unit → Option (Bool)) : Option (Bool) :=
  (geti a_0 i_6).bind fun y10 =>
  (geti b_1 i_6).bind fun y12 =>
  (bif (!((y10.src == y12.src) && ((y10.to == y12.to) && ((y10.rights == y12.rights) && true)))) then
  some false
  else
  nx8 ())

def syllogistref_Edges (a_0 : List Edge) (b_1 : List Edge) : Option (Bool) :=
  (bif ((a_0.length : Int) != (b_1.length : Int)) then
  some false
  else
  forK (σ := Unit) (fun i s nx_ => syllogistref_Edges_b7 a_0 b_1 i nx_) (fun _ => syllogistref_Edges_k3) ((a_0.length : Int) - (0 : Int)).toNat (0 : Int) ())

set_option maxRecDepth 100000 in
set_option maxHeartbeats 4000000 in
theorem syllogistref_Edges_ok (w0 : World) (m : Snap) (l : List HI) (ua_0 : Value) (a_0 : List Edge) (ha_0 : RS rEdge m ua_0 a_0) (ub_1 : Value) (b_1 : List Edge) (hb_1 : RS rEdge m ub_1 b_1) (r : Bool) (hr : syllogistref_Edges a_0 b_1 = some r) (w : World) (hc : cX w0 ⟨m, l⟩ w) :
    Calls Try.prog 11 [ua_0, ub_1].toArray w fun e w' => e = .returned (.bool r) ∧ cX w0 ⟨m, l⟩ w' := by
  unfold syllogistref_Edges at hr
  refine calls_of_Tr (N := 26) Try.func11 rfl hc rfl (Nat.le_of_ble_eq_true rfl) ?_
  refine Tr.seq ?_
  refine Tr.region_f (fun _ => false) ?_
  refine W.q rfl rfl rfl rfl (by decide) (Yd.as rfl .c) ?_
  refine W.end ?_
  refine NX.sub (env' := [(0, _), (1, _)]) ⟨rfl, rfl, trivial⟩ ?_
  refine NX.then ?_
  refine Tr.seq ?_
  refine Tr.seq ?_
  refine Tr.region_f (fun _ => false) ?_
  refine W.q rfl rfl rfl rfl (by decide) (Yd.mv rfl (.t rfl)) ?_
  refine W.q rfl rfl rfl rfl (by decide) (Yd.lenR ha_0 rfl Try.underlying22 (.t rfl)) ?_
  refine W.q rfl rfl rfl rfl (by decide) (Yd.mv rfl (.t rfl)) ?_
  refine W.q rfl rfl rfl rfl (by decide) (Yd.lenR hb_1 rfl Try.underlying22 (.t rfl)) ?_
  refine W.q rfl rfl rfl rfl (by decide) (Yd.neq rfl (.t rfl) (.t rfl)) ?_
  refine W.end ?_
  refine NX.sub (env' := [(0, _), (1, _), (10, _)]) ⟨rfl, rfl, rfl, trivial⟩ ?_
  refine NX.then ?_
  refine Tr.cond (.t rfl) (fun hb => ?_) (fun hb => ?_)
  · have hr := cond_t hb hr
    refine Tr.seq ?_
    refine Tr.region_f (fun _ => false) ?_
    refine W.q rfl rfl rfl rfl (by decide) (Yd.as rfl .c) ?_
    refine W.end ?_
    refine NX.sub (env' := [(4, _)]) ⟨rfl, trivial⟩ ?_
    refine NX.then ?_
    refine Tr.ret' (RT.then ?_)
    refine res1 rfl rfl ?_
    intro w hc
    cases hr
    exact ⟨rfl, hc⟩
  · have hr := cond_f hb hr
    refine Tr.skip' ?_
    refine NX.then ?_
    refine Tr.seq ?_
    refine Tr.seq ?_
    refine Tr.region_f (fun _ => false) ?_
    refine W.q rfl rfl rfl rfl (by decide) (Yd.as rfl .c) ?_
    refine W.end ?_
    refine NX.sub (env' := [(0, _), (1, _), (5, _)]) ⟨rfl, rfl, rfl, trivial⟩ ?_
    refine NX.then ?_
    refine Tr.join (S := fun env x => env = [] ∧ x = ⟨m, l⟩ ∧ syllogistref_Edges_k3 = some r) ?_ (fun hk4 => ?_)
    · rintro _ _ ⟨rfl, rfl, hr⟩
      unfold syllogistref_Edges_k3 at hr
      try dsimp only at hr
      refine NX.then ?_
      refine Tr.seq ?_
      refine Tr.region_f (fun _ => false) ?_
      refine W.q rfl rfl rfl rfl (by decide) (Yd.as rfl .c) ?_
      refine W.end ?_
      refine NX.sub (env' := [(4, _)]) ⟨rfl, trivial⟩ ?_
      refine NX.then ?_
      refine Tr.ret' ?_
      refine res1 rfl rfl ?_
      intro w hc
      cases hr
      exact ⟨rfl, hc⟩
    have hlen5 := (ha_0).2.1
    refine Tr.block ?_
    refine Tr.sub (env' := [(0, _), (1, _), (5, _)]) ⟨rfl, rfl, rfl, trivial⟩ ?_
    refine Tr.loop (S := fun n (z : Int × Unit) env x => match z with | (i_6, _) => env = [(0, ua_0), (1, ub_1), (5, .int .i64 i_6)] ∧ x = ⟨m, l⟩ ∧ n = ((a_0.length : Int) - i_6).toNat ∧ 0 ≤ i_6 ∧ forK (σ := Unit) (fun i s nx_ => syllogistref_Edges_b7 a_0 b_1 i nx_) (fun _ => syllogistref_Edges_k3) n i_6 () = some r) _ ((0 : Int), ()) ⟨rfl, rfl, rfl, (by omega), hr⟩ ?_
    rintro n9 ⟨i_6, _⟩ env x ⟨rfl, rfl, hni_6, h0i_6, hr⟩
    cases n9 with
    | zero =>
      simp only [forK] at hr
      refine Tr.seq ?_
      refine Tr.seq ?_
      refine Tr.region_f (fun _ => false) ?_
      refine W.q rfl rfl rfl rfl (by decide) (Yd.mv rfl (.t rfl)) ?_
      refine W.q rfl rfl rfl rfl (by decide) (Yd.mv rfl (.t rfl)) ?_
      refine W.q rfl rfl rfl rfl (by decide) (Yd.lenR ha_0 rfl Try.underlying22 (.t rfl)) ?_
      refine W.q rfl rfl rfl rfl (by decide) (Yd.lss rfl (.t rfl) (.t rfl)) ?_
      refine W.end ?_
      refine NX.sub (env' := [(0, _), (1, _), (5, _), (14, _)]) ⟨rfl, rfl, rfl, rfl, trivial⟩ ?_
      refine NX.then ?_
      refine Tr.cond (.t rfl) (fun hb => ?_) (fun hb => ?_)
      · exact absurd (hb.symm.trans (fr_end hni_6)) (by decide)
      ·
        refine Tr.exit' (EX.then (EX.then (EX.block ?_)))
        refine NX.sub (env' := []) trivial ?_
        exact hk4 _ _ ⟨rfl, rfl, hr⟩
    | succ n9 =>
      obtain ⟨nx8, hnx8, hr⟩ := forK_succ hr
      try dsimp only at hr
      unfold syllogistref_Edges_b7 at hr
      try dsimp only at hr
      have hlti_6 := fr_bnd hni_6
      refine Tr.seq ?_
      refine Tr.seq ?_
      refine Tr.region_f (fun _ => false) ?_
      refine W.q rfl rfl rfl rfl (by decide) (Yd.mv rfl (.t rfl)) ?_
      refine W.q rfl rfl rfl rfl (by decide) (Yd.mv rfl (.t rfl)) ?_
      refine W.q rfl rfl rfl rfl (by decide) (Yd.lenR ha_0 rfl Try.underlying22 (.t rfl)) ?_
      refine W.q rfl rfl rfl rfl (by decide) (Yd.lss rfl (.t rfl) (.t rfl)) ?_
      refine W.end ?_
      refine NX.sub (env' := [(0, _), (1, _), (5, _), (14, _)]) ⟨rfl, rfl, rfl, rfl, trivial⟩ ?_
      refine NX.then ?_
      refine Tr.cond (.t rfl) (fun hb => ?_) (fun hb => ?_)
      rotate_left
      · exact absurd (hb.symm.trans (fr_go hni_6)) (by decide)
      ·
        refine Tr.skip' ?_
        refine NX.then ?_
        refine Tr.seq ?_
        refine Tr.block ?_
        refine Tr.seq ?_
        obtain ⟨y10, hy11, hr⟩ := bind_some hr
        obtain ⟨y12, hy13, hr⟩ := bind_some hr
        refine Tr.region_x (fun _ => false) (fun _ => false) (Ord.of [0, 1, 2, 3, 4, 5, 6, 7, 8]) FM (by kernel_rfl) ?_
        refine W.q rfl rfl rfl rfl (by decide) (Yd.mv rfl (.t rfl)) ?_
        refine W.q rfl rfl rfl rfl (by decide) (Yd.mv rfl (.t rfl)) ?_
        refine W.q rfl rfl rfl rfl (by decide) (Yd.idxR ha_0 hy11 rfl Try.underlying22 SZ68 (.t rfl) (.t rfl)) ?_
        refine W.q rfl rfl rfl rfl (by decide) (Yd.ldFs (us := [_, _, _]) ha_0 (.refl _) hy11 rfl rfl ON68 US68 SZ68 (.t rfl)) ?_
        refine W.q rfl rfl rfl rfl (by decide) (Yd.mv rfl (.t rfl)) ?_
        refine W.q rfl rfl rfl rfl (by decide) (Yd.mv rfl (.t rfl)) ?_
        refine W.q rfl rfl rfl rfl (by decide) (Yd.idxR hb_1 hy13 rfl Try.underlying22 SZ68 (.t rfl) (.t rfl)) ?_
        refine W.q rfl rfl rfl rfl (by decide) (Yd.ldFs (us := [_, _, _]) hb_1 (.refl _) hy13 rfl rfl ON68 US68 SZ68 (.t rfl)) ?_
        refine W.q rfl rfl rfl rfl (by decide) (Yd.neA rfl GU68 (fun w => ne_of_eq (EQ68 w y10.src y10.to y10.rights y12.src y12.to y12.rights)) (.t rfl) (.t rfl)) ?_
        refine W.end ?_
        refine NX.sub (env' := [(0, _), (1, _), (5, _), (25, _)]) ⟨rfl, rfl, rfl, rfl, trivial⟩ ?_
        refine NX.then ?_
        refine Tr.cond (.t rfl) (fun hb => ?_) (fun hb => ?_)
        · have hr := cond_t hb hr
          refine Tr.seq ?_
          refine Tr.region_f (fun _ => false) ?_
          refine W.q rfl rfl rfl rfl (by decide) (Yd.as rfl .c) ?_
          refine W.end ?_
          refine NX.sub (env' := [(4, _)]) ⟨rfl, trivial⟩ ?_
          refine NX.then ?_
          refine Tr.ret' (RT.block (RT.then (RT.then (RT.block (RT.then ?_)))))
          refine res1 rfl rfl ?_
          intro w hc
          cases hr
          exact ⟨rfl, hc⟩
        · have hr := cond_f hb hr
          refine Tr.skip' ?_
          refine NX.block ?_
          refine NX.then ?_
          refine Tr.region_f (fun _ => false) ?_
          refine W.q rfl rfl rfl rfl (by decide) (Yd.mv rfl (.t rfl)) ?_
          refine W.q rfl rfl rfl rfl (by decide) (Yd.add rfl (.t rfl) .c) ?_
          refine W.q rfl rfl rfl rfl (by decide) (Yd.as rfl (.t rfl)) ?_
          refine W.end ?_
          refine NX.sub (env' := [(0, _), (1, _), (5, _)]) ⟨rfl, rfl, rfl, trivial⟩ ?_
          refine NX.sub (env' := [(0, _), (1, _), (5, _)]) ⟨rfl, rfl, rfl, trivial⟩ ?_
          have hw := w64_id (n := i_6 + 1) (by omega) (by omega)
          exact NX.again n9 (i_6 + 1, ()) (Nat.lt_succ_self _) ⟨(by rw [hw] <;> rfl), rfl, (fr_dec hni_6), (by omega), ((hnx8 _).symm.trans hr)⟩

def syllogistlaw_GrantPlays_k29 (r3 : Graph × Int) (x_14 : Int) (c21 : List Int) (c24 : Int) (c25 : List Edge) : Option (Bool) :=
  bif (!((r3.2 == x_14) == true) || (syllogistref_Codes r3.1.codes c21).isSome) then
  bif (!((((r3.2 == x_14) && (((syllogistref_Codes r3.1.codes c21).getD false))) && (r3.1.n == c24)) == true) || (syllogistref_Edges r3.1.edges c25).isSome) then
  some (((((r3.2 == x_14) && (((syllogistref_Codes r3.1.codes c21).getD false))) && (r3.1.n == c24)) && (((syllogistref_Edges r3.1.edges c25).getD false)))) else none else none

def syllogistlaw_GrantPlays_k15 (n_0 : Int) (edges_1 : List Edge) (script_2 : List Deed) (fuel : Nat) (r3 : Graph × Int) (x_14 : Int) : Option (Bool) :=
  (bif (x_14 == (0 : Int)) then
  (syllogistref_Grant fuel n_0 edges_1 script_2).bind fun r33 =>
  syllogistlaw_GrantPlays_k29 r3 x_14 r33.codes r33.n r33.edges
  else
  syllogistlaw_GrantPlays_k29 r3 x_14 (([] : List Int)) ((0 : Int)) (([] : List Edge)))

def syllogistlaw_GrantPlays (fuel : Nat) (n_0 : Int) (edges_1 : List Edge) (script_2 : List Deed) : Option (Bool) :=
  (grant_Play n_0 edges_1 script_2).bind fun r3 =>
  (syllogistref_EdgesCheck n_0 edges_1).bind fun r12 =>
  (bif (decide ((script_2.length : Int) > (30 : Int))) then
  syllogistlaw_GrantPlays_k15 n_0 edges_1 script_2 fuel r3 ((1 : Int))
  else
  syllogistlaw_GrantPlays_k15 n_0 edges_1 script_2 fuel r3 r12)

set_option maxRecDepth 100000 in
set_option maxHeartbeats 4000000 in
theorem syllogistlaw_GrantPlays_ok (w0 : World) (m : Snap) (l : List HI) (fuel : Nat) (n_0 : Int) (uedges_1 : Value) (edges_1 : List Edge) (hedges_1 : RS rEdge m uedges_1 edges_1) (uscript_2 : Value) (script_2 : List Deed) (hscript_2 : RS rDeed m uscript_2 script_2) (r : Bool) (hr : syllogistlaw_GrantPlays fuel n_0 edges_1 script_2 = some r) (w : World) (hc : cX w0 ⟨m, l⟩ w) :
    Calls Try.prog 3 [.int .i64 n_0, uedges_1, uscript_2].toArray w fun e w' => e = .returned (.bool r) ∧ cX w0 ⟨m, l⟩ w' := by
  unfold syllogistlaw_GrantPlays at hr
  refine calls_of_Tr (N := 55) Try.func3 rfl hc rfl (Nat.le_of_ble_eq_true rfl) ?_
  refine Tr.seq ?_
  refine Tr.region_f (fun _ => false) ?_
  refine W.q rfl rfl rfl rfl (by decide) (Yd.as rfl .c) ?_
  refine W.end ?_
  refine NX.sub (env' := [(0, _), (1, _), (2, _)]) ⟨rfl, rfl, rfl, trivial⟩ ?_
  refine NX.then ?_
  refine Tr.seq ?_
  refine Tr.addnil 27 1 ?_
  refine Tr.cast (m' := m) (l' := hownT 27 1 encI (.slice none 0 0) (([] : List Int)) :: l) rfl rfl ?_
  refine Tr.addnil 68 3 ?_
  refine Tr.cast (m' := m) (l' := hownT 68 3 Edge.enc (.slice none 0 0) (([] : List Edge)) :: hownT 27 1 encI (.slice none 0 0) (([] : List Int)) :: l) rfl rfl ?_
  obtain ⟨r3, hr4, hr⟩ := bind_some hr
  refine Tr.region_f (fun i => Nat.beq i 3 || Nat.beq i 7 || Nat.beq i 8) ?_
  refine W.q rfl rfl rfl rfl (by decide) (Yd.mv rfl (.t rfl)) ?_
  refine W.q rfl rfl rfl rfl (by decide) (Yd.mv rfl (.t rfl)) ?_
  refine W.q rfl rfl rfl rfl (by decide) (Yd.mv rfl (.t rfl)) ?_
  refine W.e rfl rfl rfl rfl (by decide) (Ef.call (R := fun z x' => ∃ u6 : Value, ∃ u8 : Value, ∃ m5 : Snap, z = .tuple #[.agg #[u6, .int .i64 r3.1.n, u8], .int .i64 r3.2] ∧ x' = ⟨m5, hownT 68 3 Edge.enc (.slice none 0 0) (([] : List Edge)) :: hownT 27 1 encI (.slice none 0 0) (([] : List Int)) :: l⟩ ∧ Sle m m5 ∧ RS rI m5 u6 r3.1.codes ∧ RS rEdge m5 u8 r3.1.edges) rfl Try.func7 rfl rfl (.cons (.t rfl) (.cons (.t rfl) (.cons (.t rfl) .nil))) (fun w hw => (grant_Play_ok w0 _ _ n_0 _ _ hedges_1 _ _ hscript_2 _ hr4 w hw).mono fun e w' ⟨u6, u8, m5, he, hm', hu7, hu9, hc'⟩ => ⟨_, _, he, ⟨u6, u8, m5, rfl, rfl, hm', hu7, hu9⟩, hc'⟩)) ?_
  rintro _ _ ⟨u6, u8, m5, rfl, rfl, hsm5, hu7, hu9⟩
  have hedges_1 := hedges_1.mono hsm5
  have hscript_2 := hscript_2.mono hsm5
  refine ⟨.inl rfl, ?_⟩
  refine W.cast (m' := m5) (l' := hownT 68 3 Edge.enc (.slice none 0 0) (([] : List Edge)) :: hownT 27 1 encI (.slice none 0 0) (([] : List Int)) :: l) rfl rfl ?_
  refine W.q rfl rfl rfl rfl (by decide) (Yd.mv rfl (.t rfl)) ?_
  refine W.q rfl rfl rfl rfl (by decide) (Yd.ext rfl (.t rfl) rfl) ?_
  refine W.q rfl rfl rfl rfl (by decide) (Yd.ext rfl (.t rfl) rfl) ?_
  refine W.e rfl rfl rfl rfl (by decide) (Ef.al rfl ZR26 rfl) ?_
  rintro _ _ ⟨b10, rfl, rfl⟩
  refine ⟨.inl rfl, ?_⟩
  refine W.cast (m' := m5) (l' := hcells b10 [_, _, _] 26 :: hownT 68 3 Edge.enc (.slice none 0 0) (([] : List Edge)) :: hownT 27 1 encI (.slice none 0 0) (([] : List Int)) :: l) rfl rfl ?_
  refine W.s rfl rfl rfl rfl (Ef.stBs (pos := 0) (us := [u6, .int .i64 r3.1.n, u8]) (cs' := [_, _, _]) (.cons (On.ro hu7) (.cons (On.lit rfl) (.cons (On.ro hu9) .nil))) rfl rfl (.t rfl) (.t rfl) SZ26 rfl rfl (Nat.le_of_ble_eq_true rfl) rfl) ?_
  rintro _ _ ⟨rfl, rfl⟩
  refine ⟨.inl rfl, ?_⟩
  refine W.cast (m' := m5) (l' := hcells b10 [_, _, _] 26 :: hownT 68 3 Edge.enc (.slice none 0 0) (([] : List Edge)) :: hownT 27 1 encI (.slice none 0 0) (([] : List Int)) :: l) rfl rfl ?_
  refine W.q rfl rfl rfl rfl (by decide) (Yd.as rfl (.t rfl)) ?_
  refine W.end ?_
  refine NX.sub (env' := [(0, _), (1, _), (2, _), (7, _), (8, _)]) ⟨rfl, rfl, rfl, rfl, rfl, trivial⟩ ?_
  refine NX.drop (l' := hcells b10 [_, _, _] 26 :: l) (.cons_cons _ (.cons _ (.cons _ (.refl _)))) ?_
  refine NX.then ?_
  refine Tr.seq ?_
  obtain ⟨r12, hr13, hr⟩ := bind_some hr
  refine Tr.region_f (fun _ => false) ?_
  refine W.q rfl rfl rfl rfl (by decide) (Yd.mv rfl (.t rfl)) ?_
  refine W.q rfl rfl rfl rfl (by decide) (Yd.mv rfl (.t rfl)) ?_
  refine W.q rfl rfl rfl rfl (by decide) (Yd.call (v := .int .i64 r12) rfl Try.func8 rfl rfl (.cons (.t rfl) (.cons (.t rfl) .nil)) (fun x' hx w hw => syllogistref_EdgesCheck_ok w0 x'.m x'.l n_0 _ _ (hedges_1.mono hx.1) _ hr13 w hw)) ?_
  refine W.q rfl rfl rfl rfl (by decide) (Yd.as rfl (.t rfl)) ?_
  refine W.end ?_
  refine NX.sub (env' := [(0, _), (1, _), (2, _), (7, _), (8, _), (9, _)]) ⟨rfl, rfl, rfl, rfl, rfl, rfl, trivial⟩ ?_
  refine NX.then ?_
  refine Tr.seq ?_
  refine Tr.seq ?_
  refine Tr.region_f (fun _ => false) ?_
  refine W.q rfl rfl rfl rfl (by decide) (Yd.mv rfl (.t rfl)) ?_
  refine W.q rfl rfl rfl rfl (by decide) (Yd.lenR hscript_2 rfl Try.underlying23 (.t rfl)) ?_
  refine W.q rfl rfl rfl rfl (by decide) (Yd.gtr rfl (.t rfl) .c) ?_
  refine W.end ?_
  refine NX.sub (env' := [(0, _), (1, _), (2, _), (7, _), (8, _), (9, _), (23, _)]) ⟨rfl, rfl, rfl, rfl, rfl, rfl, rfl, trivial⟩ ?_
  refine NX.then ?_
  refine Tr.join (S := fun env x => ∃ x_14 : Int, env = [(0, .int .i64 n_0), (1, uedges_1), (2, uscript_2), (7, bp b10 0), (8, .int .i64 r3.2), (9, .int .i64 x_14)] ∧ x = ⟨m5, hcells b10 [u6, .int .i64 r3.1.n, u8] 26 :: l⟩ ∧ syllogistlaw_GrantPlays_k15 n_0 edges_1 script_2 fuel r3 x_14 = some r) ?_ (fun hk16 => ?_)
  · rintro _ _ ⟨x_14, rfl, rfl, hr⟩
    unfold syllogistlaw_GrantPlays_k15 at hr
    try dsimp only at hr
    refine NX.then ?_
    refine Tr.seq ?_
    refine Tr.addnil 27 1 ?_
    refine Tr.cast (m' := m5) (l' := hownT 27 1 encI (.slice none 0 0) (([] : List Int)) :: hcells b10 [u6, .int .i64 r3.1.n, u8] 26 :: l) rfl rfl ?_
    refine Tr.addnil 68 3 ?_
    refine Tr.cast (m' := m5) (l' := hownT 68 3 Edge.enc (.slice none 0 0) (([] : List Edge)) :: hownT 27 1 encI (.slice none 0 0) (([] : List Int)) :: hcells b10 [u6, .int .i64 r3.1.n, u8] 26 :: l) rfl rfl ?_
    refine Tr.region_f (fun i => Nat.beq i 1 || Nat.beq i 2) ?_
    refine W.q rfl rfl rfl rfl (by decide) (Yd.bld (cells := [.slice none 0 0, .int .i64 ((0 : Int)), .slice none 0 0]) rfl ZI26 PL26 .nil rfl) ?_
    refine W.e rfl rfl rfl rfl (by decide) (Ef.al rfl ZR26 rfl) ?_
    rintro _ _ ⟨b19, rfl, rfl⟩
    refine ⟨.inl rfl, ?_⟩
    refine W.cast (m' := m5) (l' := hcells b19 [_, _, _] 26 :: hownT 68 3 Edge.enc (.slice none 0 0) (([] : List Edge)) :: hownT 27 1 encI (.slice none 0 0) (([] : List Int)) :: hcells b10 [_, _, _] 26 :: l) rfl rfl ?_
    refine W.s rfl rfl rfl rfl (Ef.stB (pos := 0) (us := [_, _, _]) (cs' := [_, _, _]) rfl rfl (.t rfl) (.t rfl) SZ26 rfl rfl rfl (Nat.le_of_ble_eq_true rfl) rfl) ?_
    rintro _ _ ⟨rfl, rfl⟩
    refine ⟨.inl rfl, ?_⟩
    refine W.cast (m' := m5) (l' := hcells b19 [_, _, _] 26 :: hownT 68 3 Edge.enc (.slice none 0 0) (([] : List Edge)) :: hownT 27 1 encI (.slice none 0 0) (([] : List Int)) :: hcells b10 [_, _, _] 26 :: l) rfl rfl ?_
    refine W.end ?_
    refine NX.sub (env' := [(0, _), (1, _), (2, _), (7, _), (8, _), (9, _), (10, _)]) ⟨rfl, rfl, rfl, rfl, rfl, rfl, rfl, trivial⟩ ?_
    refine NX.then ?_
    refine Tr.seq ?_
    refine Tr.seq ?_
    refine Tr.region_f (fun _ => false) ?_
    refine W.q rfl rfl rfl rfl (by decide) (Yd.mv rfl (.t rfl)) ?_
    refine W.q rfl rfl rfl rfl (by decide) (Yd.eql rfl (.t rfl) .c) ?_
    refine W.end ?_
    refine NX.sub (env' := [(0, _), (1, _), (2, _), (7, _), (8, _), (9, _), (10, _), (26, _)]) ⟨rfl, rfl, rfl, rfl, rfl, rfl, rfl, rfl, trivial⟩ ?_
    refine NX.then ?_
    refine Tr.join (S := fun env x => ∃ c21 : List Int, ∃ c24 : Int, ∃ c25 : List Edge, ∃ m28 : Snap, ∃ u22 : Value, ∃ u26 : Value, Sle m5 m28 ∧ RS rI m28 u22 c21 ∧ RS rEdge m28 u26 c25 ∧ env = [(7, bp b10 0), (8, .int .i64 r3.2), (9, .int .i64 x_14), (10, bp b19 0)] ∧ x = ⟨m28, hcells b19 [u22, .int .i64 c24, u26] 26 :: hcells b10 [u6, .int .i64 r3.1.n, u8] 26 :: l⟩ ∧ syllogistlaw_GrantPlays_k29 r3 x_14 c21 c24 c25 = some r) ?_ (fun hk30 => ?_)
    · rintro _ _ ⟨c21, c24, c25, m28, u22, u26, hsm28, hu23, hu27, rfl, rfl, hr⟩
      unfold syllogistlaw_GrantPlays_k29 at hr
      try dsimp only at hr
      have hedges_1 := hedges_1.mono hsm28
      have hscript_2 := hscript_2.mono hsm28
      have hu7 := hu7.mono hsm28
      have hu9 := hu9.mono hsm28
      refine NX.then ?_
      refine Tr.seq ?_
      obtain ⟨ha31, hr⟩ := guard_some hr
      obtain ⟨ha32, hr⟩ := guard_some hr
      refine Tr.region_f (fun _ => false) ?_
      refine W.q rfl rfl rfl rfl (by decide) (Yd.mv rfl (.t rfl)) ?_
      refine W.q rfl rfl rfl rfl (by decide) (Yd.mv rfl (.t rfl)) ?_
      refine W.q rfl rfl rfl rfl (by decide) (Yd.eql rfl (.t rfl) (.t rfl)) ?_
      refine W.q rfl rfl rfl rfl (by decide) (Yd.mv rfl (.t rfl)) ?_
      refine W.g rfl rfl rfl rfl rfl (.t rfl _) rfl (by decide) (fun hG => Yd.fldB rfl Try.underlying26 rfl SZ24 rfl (.t rfl)) ?_
      refine W.g rfl rfl rfl rfl rfl (.t rfl _) rfl (by decide) (fun hG => Yd.ldB (pos := 1) rfl rfl rfl ON24 (.g rfl hG)) ?_
      refine W.g rfl rfl rfl rfl rfl (.t rfl _) rfl (by decide) (fun hG => Yd.fldB rfl Try.underlying26 rfl SZ24 rfl (.t rfl)) ?_
      refine W.g rfl rfl rfl rfl rfl (.t rfl _) rfl (by decide) (fun hG => Yd.ldB (pos := 0) rfl rfl rfl ON24 (.g rfl hG)) ?_
      refine W.g rfl rfl rfl rfl rfl (.t rfl _) rfl (by decide) (fun hG => Yd.call (v := .bool ((((syllogistref_Codes r3.1.codes c21).getD false)))) rfl Try.func10 rfl rfl (.cons (.g rfl hG) (.cons (.g rfl hG) .nil)) (fun x' hx w hw => syllogistref_Codes_ok w0 x'.m x'.l _ _ (hu7.mono hx.1) _ _ (hu23.mono hx.1) _ (gd_get (d := false) ha31 hG) w hw)) ?_
      refine W.q rfl rfl rfl rfl (by decide) (Yd.and rfl (.t rfl) .c rfl rfl) ?_
      refine W.q rfl rfl rfl rfl (by decide) (Yd.mv rfl (.t rfl)) ?_
      refine W.g rfl rfl rfl rfl rfl (.t rfl _) rfl (by decide) (fun hG => Yd.fldB rfl Try.underlying26 rfl SZ3 rfl (.t rfl)) ?_
      refine W.g rfl rfl rfl rfl rfl (.t rfl _) rfl (by decide) (fun hG => Yd.ldB (pos := 1) rfl rfl rfl ON3 (.g rfl hG)) ?_
      refine W.g rfl rfl rfl rfl rfl (.t rfl _) rfl (by decide) (fun hG => Yd.fldB rfl Try.underlying26 rfl SZ3 rfl (.t rfl)) ?_
      refine W.g rfl rfl rfl rfl rfl (.t rfl _) rfl (by decide) (fun hG => Yd.ldB (pos := 0) rfl rfl rfl ON3 (.g rfl hG)) ?_
      refine W.g rfl rfl rfl rfl rfl (.t rfl _) rfl (by decide) (fun hG => Yd.eql rfl (.g rfl hG) (.g rfl hG)) ?_
      refine W.q rfl rfl rfl rfl (by decide) (Yd.and rfl (.t rfl) .c rfl rfl) ?_
      refine W.q rfl rfl rfl rfl (by decide) (Yd.mv rfl (.t rfl)) ?_
      refine W.g rfl rfl rfl rfl rfl (.t rfl _) rfl (by decide) (fun hG => Yd.fldB rfl Try.underlying26 rfl SZ22 rfl (.t rfl)) ?_
      refine W.g rfl rfl rfl rfl rfl (.t rfl _) rfl (by decide) (fun hG => Yd.ldB (pos := 1) rfl rfl rfl ON22 (.g rfl hG)) ?_
      refine W.g rfl rfl rfl rfl rfl (.t rfl _) rfl (by decide) (fun hG => Yd.fldB rfl Try.underlying26 rfl SZ22 rfl (.t rfl)) ?_
      refine W.g rfl rfl rfl rfl rfl (.t rfl _) rfl (by decide) (fun hG => Yd.ldB (pos := 0) rfl rfl rfl ON22 (.g rfl hG)) ?_
      refine W.g rfl rfl rfl rfl rfl (.t rfl _) rfl (by decide) (fun hG => Yd.call (v := .bool ((((syllogistref_Edges r3.1.edges c25).getD false)))) rfl Try.func11 rfl rfl (.cons (.g rfl hG) (.cons (.g rfl hG) .nil)) (fun x' hx w hw => syllogistref_Edges_ok w0 x'.m x'.l _ _ (hu9.mono hx.1) _ _ (hu27.mono hx.1) _ (gd_get (d := false) ha32 hG) w hw)) ?_
      refine W.q rfl rfl rfl rfl (by decide) (Yd.and rfl (.t rfl) .c rfl rfl) ?_
      refine W.q rfl rfl rfl rfl (by decide) (Yd.as rfl (.t rfl)) ?_
      refine W.end ?_
      refine NX.sub (env' := [(6, _)]) ⟨rfl, trivial⟩ ?_
      refine NX.drop (l' := l) (.cons _ (.cons _ (.refl _))) ?_
      refine NX.then ?_
      refine Tr.ret' ?_
      refine res1 rfl rfl ?_
      intro w hc
      cases hr
      exact ⟨rfl, (cX_le (x := ⟨m, _⟩) ⟨(hsm5.trans hsm28), [], rfl⟩ hc)⟩
    refine Tr.cond (.t rfl) (fun hb => ?_) (fun hb => ?_)
    · have hr := cond_t hb hr
      obtain ⟨r33, hr34, hr⟩ := bind_some hr
      refine Tr.region_f (fun i => Nat.beq i 3 || Nat.beq i 4) ?_
      refine W.q rfl rfl rfl rfl (by decide) (Yd.mv rfl (.t rfl)) ?_
      refine W.q rfl rfl rfl rfl (by decide) (Yd.mv rfl (.t rfl)) ?_
      refine W.q rfl rfl rfl rfl (by decide) (Yd.mv rfl (.t rfl)) ?_
      refine W.e rfl rfl rfl rfl (by decide) (Ef.call (R := fun z x' => ∃ u36 : Value, ∃ u38 : Value, ∃ m35 : Snap, z = .agg #[u36, .int .i64 r33.n, u38] ∧ x' = ⟨m35, hcells b19 [(.slice none 0 0), .int .i64 ((0 : Int)), (.slice none 0 0)] 26 :: hownT 68 3 Edge.enc (.slice none 0 0) (([] : List Edge)) :: hownT 27 1 encI (.slice none 0 0) (([] : List Int)) :: hcells b10 [u6, .int .i64 r3.1.n, u8] 26 :: l⟩ ∧ Sle m5 m35 ∧ RS rI m35 u36 r33.codes ∧ RS rEdge m35 u38 r33.edges) rfl Try.func9 rfl rfl (.cons (.t rfl) (.cons (.t rfl) (.cons (.t rfl) .nil))) (fun w hw => (syllogistref_Grant_ok w0 _ _ fuel n_0 _ _ hedges_1 _ _ hscript_2 _ hr34 w hw).mono fun e w' ⟨u36, u38, m35, he, hm', hu37, hu39, hc'⟩ => ⟨_, _, he, ⟨u36, u38, m35, rfl, rfl, hm', hu37, hu39⟩, hc'⟩)) ?_
      rintro _ _ ⟨u36, u38, m35, rfl, rfl, hsm35, hu37, hu39⟩
      have hedges_1 := hedges_1.mono hsm35
      have hscript_2 := hscript_2.mono hsm35
      have hu7 := hu7.mono hsm35
      have hu9 := hu9.mono hsm35
      refine ⟨.inl rfl, ?_⟩
      refine W.cast (m' := m35) (l' := hcells b19 [_, _, _] 26 :: hownT 68 3 Edge.enc (.slice none 0 0) (([] : List Edge)) :: hownT 27 1 encI (.slice none 0 0) (([] : List Int)) :: hcells b10 [_, _, _] 26 :: l) rfl rfl ?_
      refine W.s rfl rfl rfl rfl (Ef.stBs (pos := 0) (us := [u36, .int .i64 r33.n, u38]) (cs' := [_, _, _]) (.cons (On.ro hu37) (.cons (On.lit rfl) (.cons (On.ro hu39) .nil))) rfl rfl (.t rfl) (.t rfl) SZ26 rfl rfl (Nat.le_of_ble_eq_true rfl) rfl) ?_
      rintro _ _ ⟨rfl, rfl⟩
      refine ⟨.inl rfl, ?_⟩
      refine W.cast (m' := m35) (l' := hcells b19 [_, _, _] 26 :: hownT 68 3 Edge.enc (.slice none 0 0) (([] : List Edge)) :: hownT 27 1 encI (.slice none 0 0) (([] : List Int)) :: hcells b10 [_, _, _] 26 :: l) rfl rfl ?_
      refine W.end ?_
      refine NX.sub (env' := [(7, _), (8, _), (9, _), (10, _)]) ⟨rfl, rfl, rfl, rfl, trivial⟩ ?_
      refine NX.drop (l' := hcells b19 [_, _, _] 26 :: hcells b10 [_, _, _] 26 :: l) (.cons_cons _ (.cons _ (.cons _ (.cons_cons _ (.refl _))))) ?_
      refine NX.sub (env' := [(7, _), (8, _), (9, _), (10, _)]) ⟨rfl, rfl, rfl, rfl, trivial⟩ ?_
      exact hk30 _ _ ⟨_, _, _, _, _, _, hsm35, hu37, hu39, rfl, rfl, hr⟩
    · have hr := cond_f hb hr
      refine Tr.skip' ?_
      refine NX.freezeT (enc := encI) (n := 1) (pos := 2) (xs := ([] : List Int)) (fun _ => rfl) rfl (fun m40 hsm40 hu41 => ?_)
      have hedges_1 := hedges_1.mono hsm40
      have hscript_2 := hscript_2.mono hsm40
      have hu7 := hu7.mono hsm40
      have hu9 := hu9.mono hsm40
      refine NX.cast (m' := m40) (l' := hcells b19 [_, _, _] 26 :: hownT 68 3 Edge.enc (.slice none 0 0) (([] : List Edge)) :: hcells b10 [_, _, _] 26 :: l) rfl rfl ?_
      refine NX.freezeT (enc := Edge.enc) (n := 3) (pos := 1) (xs := ([] : List Edge)) (fun _ => rfl) rfl (fun m42 hsm42 hu43 => ?_)
      have hedges_1 := hedges_1.mono hsm42
      have hscript_2 := hscript_2.mono hsm42
      have hu7 := hu7.mono hsm42
      have hu9 := hu9.mono hsm42
      have hu41 := hu41.mono hsm42
      refine NX.cast (m' := m42) (l' := hcells b19 [_, _, _] 26 :: hcells b10 [_, _, _] 26 :: l) rfl rfl ?_
      refine NX.sub (env' := [(7, _), (8, _), (9, _), (10, _)]) ⟨rfl, rfl, rfl, rfl, trivial⟩ ?_
      exact hk30 _ _ ⟨_, _, _, _, _, _, (hsm40.trans hsm42), hu41, hu43, rfl, rfl, hr⟩
  refine Tr.cond (.t rfl) (fun hb => ?_) (fun hb => ?_)
  · have hr := cond_t hb hr
    refine Tr.region_f (fun _ => false) ?_
    refine W.q rfl rfl rfl rfl (by decide) (Yd.as rfl .c) ?_
    refine W.end ?_
    refine NX.sub (env' := [(0, _), (1, _), (2, _), (7, _), (8, _), (9, _)]) ⟨rfl, rfl, rfl, rfl, rfl, rfl, trivial⟩ ?_
    refine NX.sub (env' := [(0, _), (1, _), (2, _), (7, _), (8, _), (9, _)]) ⟨rfl, rfl, rfl, rfl, rfl, rfl, trivial⟩ ?_
    exact hk16 _ _ ⟨_, rfl, rfl, hr⟩
  · have hr := cond_f hb hr
    refine Tr.skip' ?_
    refine NX.sub (env' := [(0, _), (1, _), (2, _), (7, _), (8, _), (9, _)]) ⟨rfl, rfl, rfl, rfl, rfl, rfl, trivial⟩ ?_
    exact hk16 _ _ ⟨_, rfl, rfl, hr⟩
end Go.Proofs.Ytafaimklnnpkiaa.Sy
