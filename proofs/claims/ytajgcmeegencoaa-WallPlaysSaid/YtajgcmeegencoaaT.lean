/- The program's structs as plain data, how they lie in cells, and how the rows' readings give them (own lemmas, printed by an own program). -/
import Derived.Test.YtajgcmeegencoaaSyN
import Derived.Test.YtajgcmeegencoaaProg
namespace Go.Proofs.Ytajgcmeegencoaa.Sy
open Go
theorem CO27 : Try.prog.cellsOf 27 = 3 := by kernel_rfl
theorem CO24 : Try.prog.cellsOf 24 = 1 := by kernel_rfl
theorem CO25 : Try.prog.cellsOf 25 = 1 := by kernel_rfl
theorem CO41 : Try.prog.cellsOf 41 = 2 := by kernel_rfl
theorem CO3 : Try.prog.cellsOf 3 = 1 := by kernel_rfl
theorem CO39 : Try.prog.cellsOf 39 = 1 := by kernel_rfl
theorem CO43 : Try.prog.cellsOf 43 = 6 := by kernel_rfl
structure Walled where
  codes : List Int
  read : List (BitVec 32)
  src : List (BitVec 32)
def rWalled : Rp Walled := ⟨3, fun m cs x => ∃ u0 u1 u2 : Value, cs = [u0, u1, u2] ∧ RS rI m u0 x.codes ∧ RS rU m u1 x.read ∧ RS rU m u2 x.src, fun m m' cs x hm ⟨u0, u1, u2, e, h0, h1, h2⟩ => ⟨u0, u1, u2, e, h0.mono hm, h1.mono hm, h2.mono hm⟩, fun m cs x ⟨_, _, _, e, _, _, _⟩ => by rw [e]; rfl⟩
def goodWalled (x : Walled) : Prop := (∀ qxcodes ∈ x.codes, inI qxcodes) ∧ (∀ qxread ∈ x.read, True) ∧ (∀ qxsrc ∈ x.src, True)
set_option maxRecDepth 100000 in
theorem opnWalled : Opn Try.prog rWalled goodWalled 27 := by
  intro H enc W fuel cs y h
  obtain ⟨hl, n, hg⟩ := trod_fld Try.underlying27 CO27 h
  obtain ⟨y0, h0⟩ : ∃ y, DataW.trod enc Try.prog W 0 (fun _ => true) true n 24 ((cs.drop 0).take (Try.prog.cellsOf 24)) = some y := by
    have := hg 0 _ rfl
    exact this
  obtain ⟨x0, e0, g0⟩ := ((opn_slice (R := rI) Try.underlying24 (by kernel_rfl) (by decide) (opn_int Try.underlying28))) H enc W n _ y0 h0
  obtain ⟨y1, h1⟩ : ∃ y, DataW.trod enc Try.prog W 0 (fun _ => true) true n 25 ((cs.drop 1).take (Try.prog.cellsOf 25)) = some y := by
    have := hg 1 _ rfl
    exact this
  obtain ⟨x1, e1, g1⟩ := ((opn_slice (R := rU) Try.underlying25 (by kernel_rfl) (by decide) (opn_u32 Try.underlying39))) H enc W n _ y1 h1
  obtain ⟨y2, h2⟩ : ∃ y, DataW.trod enc Try.prog W 0 (fun _ => true) true n 25 ((cs.drop 2).take (Try.prog.cellsOf 25)) = some y := by
    have := hg 2 _ rfl
    exact this
  obtain ⟨x2, e2, g2⟩ := ((opn_slice (R := rU) Try.underlying25 (by kernel_rfl) (by decide) (opn_u32 Try.underlying39))) H enc W n _ y2 h2
  match cs, hl with
  | [c0, c1, c2], _ =>
    simp only [CO24] at e0
    obtain ⟨v0, e00, r0⟩ := e0
    have e0' : [c0] = [v0] := e00
    simp only [CO25] at e1
    obtain ⟨v1, e10, r1⟩ := e1
    have e1' : [c1] = [v1] := e10
    simp only [CO25] at e2
    obtain ⟨v2, e20, r2⟩ := e2
    have e2' : [c2] = [v2] := e20
    cases e0'
    cases e1'
    cases e2'
    exact ⟨⟨x0, x1, x2⟩, ⟨_, _, _, rfl, r0, r1, r2⟩, ⟨g0, g1, g2⟩⟩
structure Label where
  level : Int
  parts : BitVec 32
def Label.enc (x : Label) : List Value := [.int .i64 x.level, .int .u32 (x.parts.toNat : Int)]
abbrev rLabel : Rp Label := .flat 2 Label.enc fun _ => rfl
def goodLabel (x : Label) : Prop := inI x.level ∧ True
set_option maxRecDepth 100000 in
theorem opnLabel : Opn Try.prog rLabel goodLabel 41 := by
  intro H enc W fuel cs y h
  obtain ⟨hl, n, hg⟩ := trod_fld Try.underlying41 CO41 h
  obtain ⟨y0, h0⟩ : ∃ y, DataW.trod enc Try.prog W 0 (fun _ => true) true n 3 ((cs.drop 0).take (Try.prog.cellsOf 3)) = some y := by
    have := hg 0 _ rfl
    exact this
  obtain ⟨x0, e0, g0⟩ := (opn_int Try.underlying3) H enc W n _ y0 h0
  obtain ⟨y1, h1⟩ : ∃ y, DataW.trod enc Try.prog W 0 (fun _ => true) true n 39 ((cs.drop 1).take (Try.prog.cellsOf 39)) = some y := by
    have := hg 1 _ rfl
    exact this
  obtain ⟨x1, e1, g1⟩ := (opn_u32 Try.underlying39) H enc W n _ y1 h1
  match cs, hl with
  | [c0, c1], _ =>
    simp only [CO3] at e0
    have e0' : [c0] = encI x0 := e0
    simp only [CO39] at e1
    have e1' : [c1] = encU x1 := e1
    cases e0'
    cases e1'
    exact ⟨⟨x0, x1⟩, rfl, ⟨g0, g1⟩⟩
structure Deed where
  kind : Int
  by_ : Int
  to : Int
  label : Label
  val : Int
def Deed.enc (x : Deed) : List Value := [.int .i64 x.kind, .int .i64 x.by_, .int .i64 x.to, .int .i64 x.label.level, .int .u32 (x.label.parts.toNat : Int), .int .i64 x.val]
abbrev rDeed : Rp Deed := .flat 6 Deed.enc fun _ => rfl
def goodDeed (x : Deed) : Prop := inI x.kind ∧ inI x.by_ ∧ inI x.to ∧ goodLabel x.label ∧ inI x.val
set_option maxRecDepth 100000 in
theorem opnDeed : Opn Try.prog rDeed goodDeed 43 := by
  intro H enc W fuel cs y h
  obtain ⟨hl, n, hg⟩ := trod_fld Try.underlying43 CO43 h
  obtain ⟨y0, h0⟩ : ∃ y, DataW.trod enc Try.prog W 0 (fun _ => true) true n 3 ((cs.drop 0).take (Try.prog.cellsOf 3)) = some y := by
    have := hg 0 _ rfl
    exact this
  obtain ⟨x0, e0, g0⟩ := (opn_int Try.underlying3) H enc W n _ y0 h0
  obtain ⟨y1, h1⟩ : ∃ y, DataW.trod enc Try.prog W 0 (fun _ => true) true n 3 ((cs.drop 1).take (Try.prog.cellsOf 3)) = some y := by
    have := hg 1 _ rfl
    exact this
  obtain ⟨x1, e1, g1⟩ := (opn_int Try.underlying3) H enc W n _ y1 h1
  obtain ⟨y2, h2⟩ : ∃ y, DataW.trod enc Try.prog W 0 (fun _ => true) true n 3 ((cs.drop 2).take (Try.prog.cellsOf 3)) = some y := by
    have := hg 2 _ rfl
    exact this
  obtain ⟨x2, e2, g2⟩ := (opn_int Try.underlying3) H enc W n _ y2 h2
  obtain ⟨y3, h3⟩ : ∃ y, DataW.trod enc Try.prog W 0 (fun _ => true) true n 41 ((cs.drop 3).take (Try.prog.cellsOf 41)) = some y := by
    have := hg 3 _ rfl
    exact this
  obtain ⟨x3, e3, g3⟩ := (opnLabel) H enc W n _ y3 h3
  obtain ⟨y4, h4⟩ : ∃ y, DataW.trod enc Try.prog W 0 (fun _ => true) true n 3 ((cs.drop 5).take (Try.prog.cellsOf 3)) = some y := by
    have := hg 4 _ rfl
    exact this
  obtain ⟨x4, e4, g4⟩ := (opn_int Try.underlying3) H enc W n _ y4 h4
  match cs, hl with
  | [c0, c1, c2, c3, c4, c5], _ =>
    simp only [CO3] at e0
    have e0' : [c0] = encI x0 := e0
    simp only [CO3] at e1
    have e1' : [c1] = encI x1 := e1
    simp only [CO3] at e2
    have e2' : [c2] = encI x2 := e2
    simp only [CO41] at e3
    have e3' : [c3, c4] = Label.enc x3 := e3
    simp only [CO3] at e4
    have e4' : [c5] = encI x4 := e4
    cases e0'
    cases e1'
    cases e2'
    cases e3'
    cases e4'
    exact ⟨⟨x0, x1, x2, x3, x4⟩, rfl, ⟨g0, g1, g2, g3, g4⟩⟩
end Go.Proofs.Ytajgcmeegencoaa.Sy
