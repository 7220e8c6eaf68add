/- The program's structs as plain data, how they lie in cells, and how the rows' readings give them (own lemmas, printed by an own program). -/
import Derived.Test.YthndckcjjhdbmaaSyN
import Derived.Test.YthndckcjjhdbmaaProg
namespace Go.Proofs.Ythndckcjjhdbmaa.Sy
open Go
theorem CO25 : Try.prog.cellsOf 25 = 2 := by kernel_rfl
theorem CO3 : Try.prog.cellsOf 3 = 1 := by kernel_rfl
theorem CO23 : Try.prog.cellsOf 23 = 1 := by kernel_rfl
theorem CO42 : Try.prog.cellsOf 42 = 4 := by kernel_rfl
theorem CO47 : Try.prog.cellsOf 47 = 5 := by kernel_rfl
theorem CO33 : Try.prog.cellsOf 33 = 1 := by kernel_rfl
structure Label where
  level : Int
  parts : BitVec 32
def Label.enc (x : Label) : List Value := [.int .i64 x.level, .int .u32 (x.parts.toNat : Int)]
abbrev rLabel : Rp Label := .flat 2 Label.enc fun _ => rfl
def goodLabel (x : Label) : Prop := inI x.level ∧ True
set_option maxRecDepth 100000 in
theorem opnLabel : Opn Try.prog rLabel goodLabel 25 := by
  intro H enc W fuel cs y h
  obtain ⟨hl, n, hg⟩ := trod_fld Try.underlying25 CO25 h
  obtain ⟨y0, h0⟩ : ∃ y, DataW.trod enc Try.prog W 0 (fun _ => true) true n 3 ((cs.drop 0).take (Try.prog.cellsOf 3)) = some y := by
    have := hg 0 _ rfl
    exact this
  obtain ⟨x0, e0, g0⟩ := (opn_int Try.underlying3) H enc W n _ y0 h0
  obtain ⟨y1, h1⟩ : ∃ y, DataW.trod enc Try.prog W 0 (fun _ => true) true n 23 ((cs.drop 1).take (Try.prog.cellsOf 23)) = some y := by
    have := hg 1 _ rfl
    exact this
  obtain ⟨x1, e1, g1⟩ := (opn_u32 Try.underlying23) H enc W n _ y1 h1
  match cs, hl with
  | [c0, c1], _ =>
    simp only [CO3] at e0
    have e0' : [c0] = encI x0 := e0
    simp only [CO23] at e1
    have e1' : [c1] = encU x1 := e1
    cases e0'
    cases e1'
    exact ⟨⟨x0, x1⟩, rfl, ⟨g0, g1⟩⟩
structure Leaf where
  up : Int
  text : Int
  label : Label
def Leaf.enc (x : Leaf) : List Value := [.int .i64 x.up, .int .i64 x.text, .int .i64 x.label.level, .int .u32 (x.label.parts.toNat : Int)]
abbrev rLeaf : Rp Leaf := .flat 4 Leaf.enc fun _ => rfl
def goodLeaf (x : Leaf) : Prop := inI x.up ∧ inI x.text ∧ goodLabel x.label
set_option maxRecDepth 100000 in
theorem opnLeaf : Opn Try.prog rLeaf goodLeaf 42 := by
  intro H enc W fuel cs y h
  obtain ⟨hl, n, hg⟩ := trod_fld Try.underlying42 CO42 h
  obtain ⟨y0, h0⟩ : ∃ y, DataW.trod enc Try.prog W 0 (fun _ => true) true n 3 ((cs.drop 0).take (Try.prog.cellsOf 3)) = some y := by
    have := hg 0 _ rfl
    exact this
  obtain ⟨x0, e0, g0⟩ := (opn_int Try.underlying3) H enc W n _ y0 h0
  obtain ⟨y1, h1⟩ : ∃ y, DataW.trod enc Try.prog W 0 (fun _ => true) true n 3 ((cs.drop 1).take (Try.prog.cellsOf 3)) = some y := by
    have := hg 1 _ rfl
    exact this
  obtain ⟨x1, e1, g1⟩ := (opn_int Try.underlying3) H enc W n _ y1 h1
  obtain ⟨y2, h2⟩ : ∃ y, DataW.trod enc Try.prog W 0 (fun _ => true) true n 25 ((cs.drop 2).take (Try.prog.cellsOf 25)) = some y := by
    have := hg 2 _ rfl
    exact this
  obtain ⟨x2, e2, g2⟩ := (opnLabel) H enc W n _ y2 h2
  match cs, hl with
  | [c0, c1, c2, c3], _ =>
    simp only [CO3] at e0
    have e0' : [c0] = encI x0 := e0
    simp only [CO3] at e1
    have e1' : [c1] = encI x1 := e1
    simp only [CO25] at e2
    have e2' : [c2, c3] = Label.enc x2 := e2
    cases e0'
    cases e1'
    cases e2'
    exact ⟨⟨x0, x1, x2⟩, rfl, ⟨g0, g1, g2⟩⟩
structure Stroke where
  kind : Int
  who : Label
  path : List Int
  text : Int
def rStroke : Rp Stroke := ⟨5, fun m cs x => ∃ u2 : Value, cs = [.int .i64 x.kind, .int .i64 x.who.level, .int .u32 (x.who.parts.toNat : Int), u2, .int .i64 x.text] ∧ RS rI m u2 x.path, fun m m' cs x hm ⟨u2, e, h2⟩ => ⟨u2, e, h2.mono hm⟩, fun m cs x ⟨_, e, _⟩ => by rw [e]; rfl⟩
def goodStroke (x : Stroke) : Prop := inI x.kind ∧ goodLabel x.who ∧ (∀ qxpath ∈ x.path, inI qxpath) ∧ inI x.text
set_option maxRecDepth 100000 in
theorem opnStroke : Opn Try.prog rStroke goodStroke 47 := by
  intro H enc W fuel cs y h
  obtain ⟨hl, n, hg⟩ := trod_fld Try.underlying47 CO47 h
  obtain ⟨y0, h0⟩ : ∃ y, DataW.trod enc Try.prog W 0 (fun _ => true) true n 3 ((cs.drop 0).take (Try.prog.cellsOf 3)) = some y := by
    have := hg 0 _ rfl
    exact this
  obtain ⟨x0, e0, g0⟩ := (opn_int Try.underlying3) H enc W n _ y0 h0
  obtain ⟨y1, h1⟩ : ∃ y, DataW.trod enc Try.prog W 0 (fun _ => true) true n 25 ((cs.drop 1).take (Try.prog.cellsOf 25)) = some y := by
    have := hg 1 _ rfl
    exact this
  obtain ⟨x1, e1, g1⟩ := (opnLabel) H enc W n _ y1 h1
  obtain ⟨y2, h2⟩ : ∃ y, DataW.trod enc Try.prog W 0 (fun _ => true) true n 33 ((cs.drop 3).take (Try.prog.cellsOf 33)) = some y := by
    have := hg 2 _ rfl
    exact this
  obtain ⟨x2, e2, g2⟩ := ((opn_slice (R := rI) Try.underlying33 (by kernel_rfl) (by decide) (opn_int Try.underlying3))) H enc W n _ y2 h2
  obtain ⟨y3, h3⟩ : ∃ y, DataW.trod enc Try.prog W 0 (fun _ => true) true n 3 ((cs.drop 4).take (Try.prog.cellsOf 3)) = some y := by
    have := hg 3 _ rfl
    exact this
  obtain ⟨x3, e3, g3⟩ := (opn_int Try.underlying3) H enc W n _ y3 h3
  match cs, hl with
  | [c0, c1, c2, c3, c4], _ =>
    simp only [CO3] at e0
    have e0' : [c0] = encI x0 := e0
    simp only [CO25] at e1
    have e1' : [c1, c2] = Label.enc x1 := e1
    simp only [CO33] at e2
    obtain ⟨v2, e20, r2⟩ := e2
    have e2' : [c3] = [v2] := e20
    simp only [CO3] at e3
    have e3' : [c4] = encI x3 := e3
    cases e0'
    cases e1'
    cases e2'
    cases e3'
    exact ⟨⟨x0, x1, x2, x3⟩, ⟨_, rfl, r2⟩, ⟨g0, g1, g2, g3⟩⟩
end Go.Proofs.Ythndckcjjhdbmaa.Sy
