/- The program's structs as plain data, how they lie in cells, and how the rows' readings give them (own lemmas, printed by an own program). -/
import Derived.Test.YthdbfajfomgbkaaSyN
import Derived.Test.YthdbfajfomgbkaaProg
namespace Go.Proofs.Ythdbfajfomgbkaa.Sy
open Go
theorem CO47 : Try.prog.cellsOf 47 = 3 := by kernel_rfl
theorem CO3 : Try.prog.cellsOf 3 = 1 := by kernel_rfl
structure Branch where
  var : Int
  low : Int
  high : Int
def Branch.enc (x : Branch) : List Value := [.int .i64 x.var, .int .i64 x.low, .int .i64 x.high]
abbrev rBranch : Rp Branch := .flat 3 Branch.enc fun _ => rfl
def goodBranch (x : Branch) : Prop := inI x.var ∧ inI x.low ∧ inI x.high
set_option maxRecDepth 100000 in
theorem opnBranch : Opn Try.prog rBranch goodBranch 47 := by
  intro H enc W fuel cs y h
  obtain ⟨hl, n, hg⟩ := trod_fld Try.underlying47 CO47 h
  obtain ⟨y0, h0⟩ : ∃ y, DataW.trod enc Try.prog W 0 (fun _ => true) true n 3 ((cs.drop 0).take (Try.prog.cellsOf 3)) = some y := by
    have := hg 0 _ rfl
    exact this
  obtain ⟨x0, e0, g0⟩ := (opn_int Try.underlying3) H enc W n _ y0 h0
  obtain ⟨y1, h1⟩ : ∃ y, DataW.trod enc Try.prog W 0 (fun _ => true) true n 3 ((cs.drop 1).take (Try.prog.cellsOf 3)) = some y := by
    have := hg 1 _ rfl
    exact this
  obtain ⟨x1, e1, g1⟩ := (opn_int Try.underlying3) H enc W n _ y1 h1
  obtain ⟨y2, h2⟩ : ∃ y, DataW.trod enc Try.prog W 0 (fun _ => true) true n 3 ((cs.drop 2).take (Try.prog.cellsOf 3)) = some y := by
    have := hg 2 _ rfl
    exact this
  obtain ⟨x2, e2, g2⟩ := (opn_int Try.underlying3) H enc W n _ y2 h2
  match cs, hl with
  | [c0, c1, c2], _ =>
    simp only [CO3] at e0
    have e0' : [c0] = encI x0 := e0
    simp only [CO3] at e1
    have e1' : [c1] = encI x1 := e1
    simp only [CO3] at e2
    have e2' : [c2] = encI x2 := e2
    cases e0'
    cases e1'
    cases e2'
    exact ⟨⟨x0, x1, x2⟩, rfl, ⟨g0, g1, g2⟩⟩
end Go.Proofs.Ythdbfajfomgbkaa.Sy
