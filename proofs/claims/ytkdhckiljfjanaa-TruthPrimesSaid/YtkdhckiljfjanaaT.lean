/- The program's structs as plain data, how they lie in cells, and how the rows' readings give them (own lemmas, printed by an own program). -/
import Derived.Test.YtkdhckiljfjanaaSyN
import Derived.Test.YtkdhckiljfjanaaProg
namespace Go.Proofs.Ytkdhckiljfjanaa.Sy
open Go
theorem CO34 : Try.prog.cellsOf 34 = 2 := by kernel_rfl
theorem CO32 : Try.prog.cellsOf 32 = 1 := by kernel_rfl
structure Clause where
  yes : BitVec 32
  no : BitVec 32
def Clause.enc (x : Clause) : List Value := [.int .u32 (x.yes.toNat : Int), .int .u32 (x.no.toNat : Int)]
abbrev rClause : Rp Clause := .flat 2 Clause.enc fun _ => rfl
def goodClause (_x : Clause) : Prop := True ∧ True
set_option maxRecDepth 100000 in
theorem opnClause : Opn Try.prog rClause goodClause 34 := by
  intro H enc W fuel cs y h
  obtain ⟨hl, n, hg⟩ := trod_fld Try.underlying34 CO34 h
  obtain ⟨y0, h0⟩ : ∃ y, DataW.trod enc Try.prog W 0 (fun _ => true) true n 32 ((cs.drop 0).take (Try.prog.cellsOf 32)) = some y := by
    have := hg 0 _ rfl
    exact this
  obtain ⟨x0, e0, g0⟩ := (opn_u32 Try.underlying32) H enc W n _ y0 h0
  obtain ⟨y1, h1⟩ : ∃ y, DataW.trod enc Try.prog W 0 (fun _ => true) true n 32 ((cs.drop 1).take (Try.prog.cellsOf 32)) = some y := by
    have := hg 1 _ rfl
    exact this
  obtain ⟨x1, e1, g1⟩ := (opn_u32 Try.underlying32) H enc W n _ y1 h1
  match cs, hl with
  | [c0, c1], _ =>
    simp only [CO32] at e0
    have e0' : [c0] = encU x0 := e0
    simp only [CO32] at e1
    have e1' : [c1] = encU x1 := e1
    cases e0'
    cases e1'
    exact ⟨⟨x0, x1⟩, rfl, ⟨g0, g1⟩⟩
end Go.Proofs.Ytkdhckiljfjanaa.Sy
