/- The program's structs as plain data, how they lie in cells, and how the rows' readings give them (own lemmas, printed by an own program). -/
import Derived.Test.YtoninfimcobeiaaSyN
import Derived.Test.YtoninfimcobeiaaProg
namespace Go.Proofs.Ytoninfimcobeiaa.Sy
open Go
theorem CO85 : Try.prog.cellsOf 85 = 2 := by kernel_rfl
theorem CO23 : Try.prog.cellsOf 23 = 1 := by kernel_rfl
structure SumsRow where
  set_ : BitVec 32
  by_ : BitVec 32
def SumsRow.enc (x : SumsRow) : List Value := [.int .u32 (x.set_.toNat : Int), .int .u32 (x.by_.toNat : Int)]
abbrev rSumsRow : Rp SumsRow := .flat 2 SumsRow.enc fun _ => rfl
def goodSumsRow (_x : SumsRow) : Prop := True ∧ True
set_option maxRecDepth 100000 in
theorem opnSumsRow : Opn Try.prog rSumsRow goodSumsRow 85 := by
  intro H enc W fuel cs y h
  obtain ⟨hl, n, hg⟩ := trod_fld Try.underlying85 CO85 h
  obtain ⟨y0, h0⟩ : ∃ y, DataW.trod enc Try.prog W 0 (fun _ => true) true n 23 ((cs.drop 0).take (Try.prog.cellsOf 23)) = some y := by
    have := hg 0 _ rfl
    exact this
  obtain ⟨x0, e0, g0⟩ := (opn_u32 Try.underlying23) H enc W n _ y0 h0
  obtain ⟨y1, h1⟩ : ∃ y, DataW.trod enc Try.prog W 0 (fun _ => true) true n 23 ((cs.drop 1).take (Try.prog.cellsOf 23)) = some y := by
    have := hg 1 _ rfl
    exact this
  obtain ⟨x1, e1, g1⟩ := (opn_u32 Try.underlying23) H enc W n _ y1 h1
  match cs, hl with
  | [c0, c1], _ =>
    simp only [CO23] at e0
    have e0' : [c0] = encU x0 := e0
    simp only [CO23] at e1
    have e1' : [c1] = encU x1 := e1
    cases e0'
    cases e1'
    exact ⟨⟨x0, x1⟩, rfl, ⟨g0, g1⟩⟩
end Go.Proofs.Ytoninfimcobeiaa.Sy
