/- The program's structs as plain data, how they lie in cells, and how the rows' readings give them (own lemmas, printed by an own program). -/
import Derived.Test.YtefaglkgpaloeaaSyN
import Derived.Test.YtefaglkgpaloeaaProg
namespace Go.Proofs.Ytefaglkgpaloeaa.Sy
open Go
theorem CO32 : Try.prog.cellsOf 32 = 2 := by kernel_rfl
theorem CO23 : Try.prog.cellsOf 23 = 1 := by kernel_rfl
theorem CO44 : Try.prog.cellsOf 44 = 2 := by kernel_rfl
structure Rule where
  cond : BitVec 32
  thn : BitVec 32
def Rule.enc (x : Rule) : List Value := [.int .u32 (x.cond.toNat : Int), .int .u32 (x.thn.toNat : Int)]
abbrev rRule : Rp Rule := .flat 2 Rule.enc fun _ => rfl
def goodRule (_x : Rule) : Prop := True ∧ True
set_option maxRecDepth 100000 in
theorem opnRule : Opn Try.prog rRule goodRule 32 := by
  intro H enc W fuel cs y h
  obtain ⟨hl, n, hg⟩ := trod_fld Try.underlying32 CO32 h
  obtain ⟨y0, h0⟩ : ∃ y, DataW.trod enc Try.prog W 0 (fun _ => true) true n 23 ((cs.drop 0).take (Try.prog.cellsOf 23)) = some y := by
    have := hg 0 _ rfl
    exact this
  obtain ⟨x0, e0, g0⟩ := (opn_u32 Try.underlying23) H enc W n _ y0 h0
  obtain ⟨y1, h1⟩ : ∃ y, DataW.trod enc Try.prog W 0 (fun _ => true) true n 23 ((cs.drop 1).take (Try.prog.cellsOf 23)) = some y := by
    have := hg 1 _ rfl
    exact this
  obtain ⟨x1, e1, g1⟩ := (opn_u32 Try.underlying23) H enc W n _ y1 h1
  match cs, hl with
  | [c0, c1], _ =>
    simp only [CO23] at e0
    have e0' : [c0] = encU x0 := e0
    simp only [CO23] at e1
    have e1' : [c1] = encU x1 := e1
    cases e0'
    cases e1'
    exact ⟨⟨x0, x1⟩, rfl, ⟨g0, g1⟩⟩
structure Concept where
  objects : BitVec 32
  marks : BitVec 32
def Concept.enc (x : Concept) : List Value := [.int .u32 (x.objects.toNat : Int), .int .u32 (x.marks.toNat : Int)]
abbrev rConcept : Rp Concept := .flat 2 Concept.enc fun _ => rfl
def goodConcept (_x : Concept) : Prop := True ∧ True
set_option maxRecDepth 100000 in
theorem opnConcept : Opn Try.prog rConcept goodConcept 44 := by
  intro H enc W fuel cs y h
  obtain ⟨hl, n, hg⟩ := trod_fld Try.underlying44 CO44 h
  obtain ⟨y0, h0⟩ : ∃ y, DataW.trod enc Try.prog W 0 (fun _ => true) true n 23 ((cs.drop 0).take (Try.prog.cellsOf 23)) = some y := by
    have := hg 0 _ rfl
    exact this
  obtain ⟨x0, e0, g0⟩ := (opn_u32 Try.underlying23) H enc W n _ y0 h0
  obtain ⟨y1, h1⟩ : ∃ y, DataW.trod enc Try.prog W 0 (fun _ => true) true n 23 ((cs.drop 1).take (Try.prog.cellsOf 23)) = some y := by
    have := hg 1 _ rfl
    exact this
  obtain ⟨x1, e1, g1⟩ := (opn_u32 Try.underlying23) H enc W n _ y1 h1
  match cs, hl with
  | [c0, c1], _ =>
    simp only [CO23] at e0
    have e0' : [c0] = encU x0 := e0
    simp only [CO23] at e1
    have e1' : [c1] = encU x1 := e1
    cases e0'
    cases e1'
    exact ⟨⟨x0, x1⟩, rfl, ⟨g0, g1⟩⟩
end Go.Proofs.Ytefaglkgpaloeaa.Sy
