/- The program's structs as plain data, how they lie in cells, and how the rows' readings give them (own lemmas, printed by an own program). -/
import Derived.Test.YtjpoedjmoobapaaSyN
import Derived.Test.YtjpoedjmoobapaaProg
namespace Go.Proofs.Ytjpoedjmoobapaa.Sy
open Go
theorem CO49 : Try.prog.cellsOf 49 = 3 := by kernel_rfl
theorem CO47 : Try.prog.cellsOf 47 = 1 := by kernel_rfl
theorem CO22 : Try.prog.cellsOf 22 = 1 := by kernel_rfl
theorem CO72 : Try.prog.cellsOf 72 = 2 := by kernel_rfl
theorem CO3 : Try.prog.cellsOf 3 = 1 := by kernel_rfl
theorem CO31 : Try.prog.cellsOf 31 = 1 := by kernel_rfl
theorem CO74 : Try.prog.cellsOf 74 = 6 := by kernel_rfl
structure Roles where
  codes : List Int
  given : List (BitVec 32)
  play : List (BitVec 32)
def rRoles : Rp Roles := ⟨3, fun m cs x => ∃ u0 u1 u2 : Value, cs = [u0, u1, u2] ∧ RS rI m u0 x.codes ∧ RS rU m u1 x.given ∧ RS rU m u2 x.play, fun m m' cs x hm ⟨u0, u1, u2, e, h0, h1, h2⟩ => ⟨u0, u1, u2, e, h0.mono hm, h1.mono hm, h2.mono hm⟩, fun m cs x ⟨_, _, _, e, _, _, _⟩ => by rw [e]; rfl⟩
def goodRoles (x : Roles) : Prop := (∀ qxcodes ∈ x.codes, inI qxcodes) ∧ (∀ qxgiven ∈ x.given, True) ∧ (∀ qxplay ∈ x.play, True)
set_option maxRecDepth 100000 in
theorem opnRoles : Opn Try.prog rRoles goodRoles 49 := by
  intro H enc W fuel cs y h
  obtain ⟨hl, n, hg⟩ := trod_fld Try.underlying49 CO49 h
  obtain ⟨y0, h0⟩ : ∃ y, DataW.trod enc Try.prog W 0 (fun _ => true) true n 47 ((cs.drop 0).take (Try.prog.cellsOf 47)) = some y := by
    have := hg 0 _ rfl
    exact this
  obtain ⟨x0, e0, g0⟩ := ((opn_slice (R := rI) Try.underlying47 (by kernel_rfl) (by decide) (opn_int Try.underlying23))) H enc W n _ y0 h0
  obtain ⟨y1, h1⟩ : ∃ y, DataW.trod enc Try.prog W 0 (fun _ => true) true n 22 ((cs.drop 1).take (Try.prog.cellsOf 22)) = some y := by
    have := hg 1 _ rfl
    exact this
  obtain ⟨x1, e1, g1⟩ := ((opn_slice (R := rU) Try.underlying22 (by kernel_rfl) (by decide) (opn_u32 Try.underlying31))) H enc W n _ y1 h1
  obtain ⟨y2, h2⟩ : ∃ y, DataW.trod enc Try.prog W 0 (fun _ => true) true n 22 ((cs.drop 2).take (Try.prog.cellsOf 22)) = some y := by
    have := hg 2 _ rfl
    exact this
  obtain ⟨x2, e2, g2⟩ := ((opn_slice (R := rU) Try.underlying22 (by kernel_rfl) (by decide) (opn_u32 Try.underlying31))) H enc W n _ y2 h2
  match cs, hl with
  | [c0, c1, c2], _ =>
    simp only [CO47] at e0
    obtain ⟨v0, e00, r0⟩ := e0
    have e0' : [c0] = [v0] := e00
    simp only [CO22] at e1
    obtain ⟨v1, e10, r1⟩ := e1
    have e1' : [c1] = [v1] := e10
    simp only [CO22] at e2
    obtain ⟨v2, e20, r2⟩ := e2
    have e2' : [c2] = [v2] := e20
    cases e0'
    cases e1'
    cases e2'
    exact ⟨⟨x0, x1, x2⟩, ⟨_, _, _, rfl, r0, r1, r2⟩, ⟨g0, g1, g2⟩⟩
structure Label where
  level : Int
  parts : BitVec 32
def Label.enc (x : Label) : List Value := [.int .i64 x.level, .int .u32 (x.parts.toNat : Int)]
abbrev rLabel : Rp Label := .flat 2 Label.enc fun _ => rfl
def goodLabel (x : Label) : Prop := inI x.level ∧ True
set_option maxRecDepth 100000 in
theorem opnLabel : Opn Try.prog rLabel goodLabel 72 := by
  intro H enc W fuel cs y h
  obtain ⟨hl, n, hg⟩ := trod_fld Try.underlying72 CO72 h
  obtain ⟨y0, h0⟩ : ∃ y, DataW.trod enc Try.prog W 0 (fun _ => true) true n 3 ((cs.drop 0).take (Try.prog.cellsOf 3)) = some y := by
    have := hg 0 _ rfl
    exact this
  obtain ⟨x0, e0, g0⟩ := (opn_int Try.underlying3) H enc W n _ y0 h0
  obtain ⟨y1, h1⟩ : ∃ y, DataW.trod enc Try.prog W 0 (fun _ => true) true n 31 ((cs.drop 1).take (Try.prog.cellsOf 31)) = some y := by
    have := hg 1 _ rfl
    exact this
  obtain ⟨x1, e1, g1⟩ := (opn_u32 Try.underlying31) H enc W n _ y1 h1
  match cs, hl with
  | [c0, c1], _ =>
    simp only [CO3] at e0
    have e0' : [c0] = encI x0 := e0
    simp only [CO31] at e1
    have e1' : [c1] = encU x1 := e1
    cases e0'
    cases e1'
    exact ⟨⟨x0, x1⟩, rfl, ⟨g0, g1⟩⟩
structure Deed where
  kind : Int
  by_ : Int
  to : Int
  label : Label
  val : Int
def Deed.enc (x : Deed) : List Value := [.int .i64 x.kind, .int .i64 x.by_, .int .i64 x.to, .int .i64 x.label.level, .int .u32 (x.label.parts.toNat : Int), .int .i64 x.val]
abbrev rDeed : Rp Deed := .flat 6 Deed.enc fun _ => rfl
def goodDeed (x : Deed) : Prop := inI x.kind ∧ inI x.by_ ∧ inI x.to ∧ goodLabel x.label ∧ inI x.val
set_option maxRecDepth 100000 in
theorem opnDeed : Opn Try.prog rDeed goodDeed 74 := by
  intro H enc W fuel cs y h
  obtain ⟨hl, n, hg⟩ := trod_fld Try.underlying74 CO74 h
  obtain ⟨y0, h0⟩ : ∃ y, DataW.trod enc Try.prog W 0 (fun _ => true) true n 3 ((cs.drop 0).take (Try.prog.cellsOf 3)) = some y := by
    have := hg 0 _ rfl
    exact this
  obtain ⟨x0, e0, g0⟩ := (opn_int Try.underlying3) H enc W n _ y0 h0
  obtain ⟨y1, h1⟩ : ∃ y, DataW.trod enc Try.prog W 0 (fun _ => true) true n 3 ((cs.drop 1).take (Try.prog.cellsOf 3)) = some y := by
    have := hg 1 _ rfl
    exact this
  obtain ⟨x1, e1, g1⟩ := (opn_int Try.underlying3) H enc W n _ y1 h1
  obtain ⟨y2, h2⟩ : ∃ y, DataW.trod enc Try.prog W 0 (fun _ => true) true n 3 ((cs.drop 2).take (Try.prog.cellsOf 3)) = some y := by
    have := hg 2 _ rfl
    exact this
  obtain ⟨x2, e2, g2⟩ := (opn_int Try.underlying3) H enc W n _ y2 h2
  obtain ⟨y3, h3⟩ : ∃ y, DataW.trod enc Try.prog W 0 (fun _ => true) true n 72 ((cs.drop 3).take (Try.prog.cellsOf 72)) = some y := by
    have := hg 3 _ rfl
    exact this
  obtain ⟨x3, e3, g3⟩ := (opnLabel) H enc W n _ y3 h3
  obtain ⟨y4, h4⟩ : ∃ y, DataW.trod enc Try.prog W 0 (fun _ => true) true n 3 ((cs.drop 5).take (Try.prog.cellsOf 3)) = some y := by
    have := hg 4 _ rfl
    exact this
  obtain ⟨x4, e4, g4⟩ := (opn_int Try.underlying3) H enc W n _ y4 h4
  match cs, hl with
  | [c0, c1, c2, c3, c4, c5], _ =>
    simp only [CO3] at e0
    have e0' : [c0] = encI x0 := e0
    simp only [CO3] at e1
    have e1' : [c1] = encI x1 := e1
    simp only [CO3] at e2
    have e2' : [c2] = encI x2 := e2
    simp only [CO72] at e3
    have e3' : [c3, c4] = Label.enc x3 := e3
    simp only [CO3] at e4
    have e4' : [c5] = encI x4 := e4
    cases e0'
    cases e1'
    cases e2'
    cases e3'
    cases e4'
    exact ⟨⟨x0, x1, x2, x3, x4⟩, rfl, ⟨g0, g1, g2, g3, g4⟩⟩
end Go.Proofs.Ytjpoedjmoobapaa.Sy
