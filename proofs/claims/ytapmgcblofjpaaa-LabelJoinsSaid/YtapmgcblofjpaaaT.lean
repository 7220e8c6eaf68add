/- The program's structs as plain data, how they lie in cells, and how the rows' readings give them (own lemmas, printed by an own program). -/
import Derived.Test.YtapmgcblofjpaaaSyL
import Derived.Test.YtapmgcblofjpaaaProg
namespace Go.Proofs.Ytapmgcblofjpaaa.Sy
open Go
theorem CO24 : Try.prog.cellsOf 24 = 2 := by kernel_rfl
theorem CO3 : Try.prog.cellsOf 3 = 1 := by kernel_rfl
theorem CO22 : Try.prog.cellsOf 22 = 1 := by kernel_rfl
structure Label where
  level : Int
  parts : BitVec 32
def Label.enc (x : Label) : List Value := [.int .i64 x.level, .int .u32 (x.parts.toNat : Int)]
abbrev rLabel : Rp Label := .flat 2 Label.enc fun _ => rfl
def goodLabel (x : Label) : Prop := inI x.level ∧ True
theorem opnLabel : Opn Try.prog rLabel goodLabel 24 := by
  intro H enc W fuel cs y h
  obtain ⟨hl, n, hg⟩ := trod_fld Try.underlying24 CO24 h
  obtain ⟨y0, h0⟩ : ∃ y, DataW.trod enc Try.prog W 0 (fun _ => true) true n 3 ((cs.drop 0).take (Try.prog.cellsOf 3)) = some y := by
    have := hg 0 _ rfl
    exact this
  obtain ⟨x0, e0, g0⟩ := (opn_int Try.underlying3) H enc W n _ y0 h0
  obtain ⟨y1, h1⟩ : ∃ y, DataW.trod enc Try.prog W 0 (fun _ => true) true n 22 ((cs.drop 1).take (Try.prog.cellsOf 22)) = some y := by
    have := hg 1 _ rfl
    exact this
  obtain ⟨x1, e1, g1⟩ := (opn_u32 Try.underlying22) H enc W n _ y1 h1
  match cs, hl with
  | [c0, c1], _ =>
    simp only [CO3] at e0
    have e0' : [c0] = encI x0 := e0
    simp only [CO22] at e1
    have e1' : [c1] = encU x1 := e1
    cases e0'
    cases e1'
    exact ⟨⟨x0, x1⟩, rfl, ⟨g0, g1⟩⟩
end Go.Proofs.Ytapmgcblofjpaaa.Sy
