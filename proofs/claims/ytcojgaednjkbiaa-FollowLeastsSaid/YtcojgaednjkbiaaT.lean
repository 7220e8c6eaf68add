/- The program's structs as plain data, how they lie in cells, and how the rows' readings give them (own lemmas, printed by an own program). -/
import Derived.Test.YtcojgaednjkbiaaSyN
import Derived.Test.YtcojgaednjkbiaaProg
namespace Go.Proofs.Ytcojgaednjkbiaa.Sy
open Go
theorem CO38 : Try.prog.cellsOf 38 = 2 := by kernel_rfl
theorem CO34 : Try.prog.cellsOf 34 = 1 := by kernel_rfl
structure Rule where
  cond : BitVec 32
  thn : BitVec 32
def Rule.enc (x : Rule) : List Value := [.int .u32 (x.cond.toNat : Int), .int .u32 (x.thn.toNat : Int)]
abbrev rRule : Rp Rule := .flat 2 Rule.enc fun _ => rfl
def goodRule (_x : Rule) : Prop := True ∧ True
set_option maxRecDepth 100000 in
theorem opnRule : Opn Try.prog rRule goodRule 38 := by
  intro H enc W fuel cs y h
  obtain ⟨hl, n, hg⟩ := trod_fld Try.underlying38 CO38 h
  obtain ⟨y0, h0⟩ : ∃ y, DataW.trod enc Try.prog W 0 (fun _ => true) true n 34 ((cs.drop 0).take (Try.prog.cellsOf 34)) = some y := by
    have := hg 0 _ rfl
    exact this
  obtain ⟨x0, e0, g0⟩ := (opn_u32 Try.underlying34) H enc W n _ y0 h0
  obtain ⟨y1, h1⟩ : ∃ y, DataW.trod enc Try.prog W 0 (fun _ => true) true n 34 ((cs.drop 1).take (Try.prog.cellsOf 34)) = some y := by
    have := hg 1 _ rfl
    exact this
  obtain ⟨x1, e1, g1⟩ := (opn_u32 Try.underlying34) H enc W n _ y1 h1
  match cs, hl with
  | [c0, c1], _ =>
    simp only [CO34] at e0
    have e0' : [c0] = encU x0 := e0
    simp only [CO34] at e1
    have e1' : [c1] = encU x1 := e1
    cases e0'
    cases e1'
    exact ⟨⟨x0, x1⟩, rfl, ⟨g0, g1⟩⟩
end Go.Proofs.Ytcojgaednjkbiaa.Sy
