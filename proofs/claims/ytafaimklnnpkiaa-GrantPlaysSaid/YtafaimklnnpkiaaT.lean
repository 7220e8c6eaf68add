/- The program's structs as plain data, how they lie in cells, and how the rows' readings give them (own lemmas, printed by an own program). -/
import Derived.Test.YtafaimklnnpkiaaSyN
import Derived.Test.YtafaimklnnpkiaaProg
namespace Go.Proofs.Ytafaimklnnpkiaa.Sy
open Go
theorem CO68 : Try.prog.cellsOf 68 = 3 := by kernel_rfl
theorem CO3 : Try.prog.cellsOf 3 = 1 := by kernel_rfl
theorem CO35 : Try.prog.cellsOf 35 = 1 := by kernel_rfl
theorem CO26 : Try.prog.cellsOf 26 = 3 := by kernel_rfl
theorem CO24 : Try.prog.cellsOf 24 = 1 := by kernel_rfl
theorem CO22 : Try.prog.cellsOf 22 = 1 := by kernel_rfl
theorem CO44 : Try.prog.cellsOf 44 = 2 := by kernel_rfl
theorem CO46 : Try.prog.cellsOf 46 = 6 := by kernel_rfl
theorem CO52 : Try.prog.cellsOf 52 = 5 := by kernel_rfl
theorem CO49 : Try.prog.cellsOf 49 = 1 := by kernel_rfl
theorem CO50 : Try.prog.cellsOf 50 = 1 := by kernel_rfl
theorem CO87 : Try.prog.cellsOf 87 = 2 := by kernel_rfl
structure Edge where
  src : Int
  to : Int
  rights : BitVec 32
def Edge.enc (x : Edge) : List Value := [.int .i64 x.src, .int .i64 x.to, .int .u32 (x.rights.toNat : Int)]
abbrev rEdge : Rp Edge := .flat 3 Edge.enc fun _ => rfl
def goodEdge (x : Edge) : Prop := inI x.src ∧ inI x.to ∧ True
set_option maxRecDepth 100000 in
theorem opnEdge : Opn Try.prog rEdge goodEdge 68 := by
  intro H enc W fuel cs y h
  obtain ⟨hl, n, hg⟩ := trod_fld Try.underlying68 CO68 h
  obtain ⟨y0, h0⟩ : ∃ y, DataW.trod enc Try.prog W 0 (fun _ => true) true n 3 ((cs.drop 0).take (Try.prog.cellsOf 3)) = some y := by
    have := hg 0 _ rfl
    exact this
  obtain ⟨x0, e0, g0⟩ := (opn_int Try.underlying3) H enc W n _ y0 h0
  obtain ⟨y1, h1⟩ : ∃ y, DataW.trod enc Try.prog W 0 (fun _ => true) true n 3 ((cs.drop 1).take (Try.prog.cellsOf 3)) = some y := by
    have := hg 1 _ rfl
    exact this
  obtain ⟨x1, e1, g1⟩ := (opn_int Try.underlying3) H enc W n _ y1 h1
  obtain ⟨y2, h2⟩ : ∃ y, DataW.trod enc Try.prog W 0 (fun _ => true) true n 35 ((cs.drop 2).take (Try.prog.cellsOf 35)) = some y := by
    have := hg 2 _ rfl
    exact this
  obtain ⟨x2, e2, g2⟩ := (opn_u32 Try.underlying35) H enc W n _ y2 h2
  match cs, hl with
  | [c0, c1, c2], _ =>
    simp only [CO3] at e0
    have e0' : [c0] = encI x0 := e0
    simp only [CO3] at e1
    have e1' : [c1] = encI x1 := e1
    simp only [CO35] at e2
    have e2' : [c2] = encU x2 := e2
    cases e0'
    cases e1'
    cases e2'
    exact ⟨⟨x0, x1, x2⟩, rfl, ⟨g0, g1, g2⟩⟩
structure Graph where
  codes : List Int
  n : Int
  edges : List Edge
def rGraph : Rp Graph := ⟨3, fun m cs x => ∃ u0 u2 : Value, cs = [u0, .int .i64 x.n, u2] ∧ RS rI m u0 x.codes ∧ RS rEdge m u2 x.edges, fun m m' cs x hm ⟨u0, u2, e, h0, h2⟩ => ⟨u0, u2, e, h0.mono hm, h2.mono hm⟩, fun m cs x ⟨_, _, e, _, _⟩ => by rw [e]; rfl⟩
def goodGraph (x : Graph) : Prop := (∀ qxcodes ∈ x.codes, inI qxcodes) ∧ inI x.n ∧ (∀ qxedges ∈ x.edges, goodEdge qxedges)
set_option maxRecDepth 100000 in
theorem opnGraph : Opn Try.prog rGraph goodGraph 26 := by
  intro H enc W fuel cs y h
  obtain ⟨hl, n, hg⟩ := trod_fld Try.underlying26 CO26 h
  obtain ⟨y0, h0⟩ : ∃ y, DataW.trod enc Try.prog W 0 (fun _ => true) true n 24 ((cs.drop 0).take (Try.prog.cellsOf 24)) = some y := by
    have := hg 0 _ rfl
    exact this
  obtain ⟨x0, e0, g0⟩ := ((opn_slice (R := rI) Try.underlying24 (by kernel_rfl) (by decide) (opn_int Try.underlying27))) H enc W n _ y0 h0
  obtain ⟨y1, h1⟩ : ∃ y, DataW.trod enc Try.prog W 0 (fun _ => true) true n 3 ((cs.drop 1).take (Try.prog.cellsOf 3)) = some y := by
    have := hg 1 _ rfl
    exact this
  obtain ⟨x1, e1, g1⟩ := (opn_int Try.underlying3) H enc W n _ y1 h1
  obtain ⟨y2, h2⟩ : ∃ y, DataW.trod enc Try.prog W 0 (fun _ => true) true n 22 ((cs.drop 2).take (Try.prog.cellsOf 22)) = some y := by
    have := hg 2 _ rfl
    exact this
  obtain ⟨x2, e2, g2⟩ := ((opn_slice (R := rEdge) Try.underlying22 (by kernel_rfl) (by decide) (opnEdge))) H enc W n _ y2 h2
  match cs, hl with
  | [c0, c1, c2], _ =>
    simp only [CO24] at e0
    obtain ⟨v0, e00, r0⟩ := e0
    have e0' : [c0] = [v0] := e00
    simp only [CO3] at e1
    have e1' : [c1] = encI x1 := e1
    simp only [CO22] at e2
    obtain ⟨v2, e20, r2⟩ := e2
    have e2' : [c2] = [v2] := e20
    cases e0'
    cases e1'
    cases e2'
    exact ⟨⟨x0, x1, x2⟩, ⟨_, _, rfl, r0, r2⟩, ⟨g0, g1, g2⟩⟩
structure Label where
  level : Int
  parts : BitVec 32
def Label.enc (x : Label) : List Value := [.int .i64 x.level, .int .u32 (x.parts.toNat : Int)]
abbrev rLabel : Rp Label := .flat 2 Label.enc fun _ => rfl
def goodLabel (x : Label) : Prop := inI x.level ∧ True
set_option maxRecDepth 100000 in
theorem opnLabel : Opn Try.prog rLabel goodLabel 44 := by
  intro H enc W fuel cs y h
  obtain ⟨hl, n, hg⟩ := trod_fld Try.underlying44 CO44 h
  obtain ⟨y0, h0⟩ : ∃ y, DataW.trod enc Try.prog W 0 (fun _ => true) true n 3 ((cs.drop 0).take (Try.prog.cellsOf 3)) = some y := by
    have := hg 0 _ rfl
    exact this
  obtain ⟨x0, e0, g0⟩ := (opn_int Try.underlying3) H enc W n _ y0 h0
  obtain ⟨y1, h1⟩ : ∃ y, DataW.trod enc Try.prog W 0 (fun _ => true) true n 35 ((cs.drop 1).take (Try.prog.cellsOf 35)) = some y := by
    have := hg 1 _ rfl
    exact this
  obtain ⟨x1, e1, g1⟩ := (opn_u32 Try.underlying35) H enc W n _ y1 h1
  match cs, hl with
  | [c0, c1], _ =>
    simp only [CO3] at e0
    have e0' : [c0] = encI x0 := e0
    simp only [CO35] at e1
    have e1' : [c1] = encU x1 := e1
    cases e0'
    cases e1'
    exact ⟨⟨x0, x1⟩, rfl, ⟨g0, g1⟩⟩
structure Deed where
  kind : Int
  by_ : Int
  to : Int
  label : Label
  val : Int
def Deed.enc (x : Deed) : List Value := [.int .i64 x.kind, .int .i64 x.by_, .int .i64 x.to, .int .i64 x.label.level, .int .u32 (x.label.parts.toNat : Int), .int .i64 x.val]
abbrev rDeed : Rp Deed := .flat 6 Deed.enc fun _ => rfl
def goodDeed (x : Deed) : Prop := inI x.kind ∧ inI x.by_ ∧ inI x.to ∧ goodLabel x.label ∧ inI x.val
set_option maxRecDepth 100000 in
theorem opnDeed : Opn Try.prog rDeed goodDeed 46 := by
  intro H enc W fuel cs y h
  obtain ⟨hl, n, hg⟩ := trod_fld Try.underlying46 CO46 h
  obtain ⟨y0, h0⟩ : ∃ y, DataW.trod enc Try.prog W 0 (fun _ => true) true n 3 ((cs.drop 0).take (Try.prog.cellsOf 3)) = some y := by
    have := hg 0 _ rfl
    exact this
  obtain ⟨x0, e0, g0⟩ := (opn_int Try.underlying3) H enc W n _ y0 h0
  obtain ⟨y1, h1⟩ : ∃ y, DataW.trod enc Try.prog W 0 (fun _ => true) true n 3 ((cs.drop 1).take (Try.prog.cellsOf 3)) = some y := by
    have := hg 1 _ rfl
    exact this
  obtain ⟨x1, e1, g1⟩ := (opn_int Try.underlying3) H enc W n _ y1 h1
  obtain ⟨y2, h2⟩ : ∃ y, DataW.trod enc Try.prog W 0 (fun _ => true) true n 3 ((cs.drop 2).take (Try.prog.cellsOf 3)) = some y := by
    have := hg 2 _ rfl
    exact this
  obtain ⟨x2, e2, g2⟩ := (opn_int Try.underlying3) H enc W n _ y2 h2
  obtain ⟨y3, h3⟩ : ∃ y, DataW.trod enc Try.prog W 0 (fun _ => true) true n 44 ((cs.drop 3).take (Try.prog.cellsOf 44)) = some y := by
    have := hg 3 _ rfl
    exact this
  obtain ⟨x3, e3, g3⟩ := (opnLabel) H enc W n _ y3 h3
  obtain ⟨y4, h4⟩ : ∃ y, DataW.trod enc Try.prog W 0 (fun _ => true) true n 3 ((cs.drop 5).take (Try.prog.cellsOf 3)) = some y := by
    have := hg 4 _ rfl
    exact this
  obtain ⟨x4, e4, g4⟩ := (opn_int Try.underlying3) H enc W n _ y4 h4
  match cs, hl with
  | [c0, c1, c2, c3, c4, c5], _ =>
    simp only [CO3] at e0
    have e0' : [c0] = encI x0 := e0
    simp only [CO3] at e1
    have e1' : [c1] = encI x1 := e1
    simp only [CO3] at e2
    have e2' : [c2] = encI x2 := e2
    simp only [CO44] at e3
    have e3' : [c3, c4] = Label.enc x3 := e3
    simp only [CO3] at e4
    have e4' : [c5] = encI x4 := e4
    cases e0'
    cases e1'
    cases e2'
    cases e3'
    cases e4'
    exact ⟨⟨x0, x1, x2, x3, x4⟩, rfl, ⟨g0, g1, g2, g3, g4⟩⟩
structure Machine where
  n : Int
  users : Int
  acts : Int
  next : List (List (List Int))
  sees : List (List Int)
def rMachine : Rp Machine := ⟨5, fun m cs x => ∃ u3 u4 : Value, cs = [.int .i64 x.n, .int .i64 x.users, .int .i64 x.acts, u3, u4] ∧ RS (Rp.slice (Rp.slice rI)) m u3 x.next ∧ RS (Rp.slice rI) m u4 x.sees, fun m m' cs x hm ⟨u3, u4, e, h3, h4⟩ => ⟨u3, u4, e, h3.mono hm, h4.mono hm⟩, fun m cs x ⟨_, _, e, _, _⟩ => by rw [e]; rfl⟩
def goodMachine (x : Machine) : Prop := inI x.n ∧ inI x.users ∧ inI x.acts ∧ (∀ qxnext ∈ x.next, (∀ qqxnext ∈ qxnext, (∀ qqqxnext ∈ qqxnext, inI qqqxnext))) ∧ (∀ qxsees ∈ x.sees, (∀ qqxsees ∈ qxsees, inI qqxsees))
set_option maxRecDepth 100000 in
theorem opnMachine : Opn Try.prog rMachine goodMachine 52 := by
  intro H enc W fuel cs y h
  obtain ⟨hl, n, hg⟩ := trod_fld Try.underlying52 CO52 h
  obtain ⟨y0, h0⟩ : ∃ y, DataW.trod enc Try.prog W 0 (fun _ => true) true n 3 ((cs.drop 0).take (Try.prog.cellsOf 3)) = some y := by
    have := hg 0 _ rfl
    exact this
  obtain ⟨x0, e0, g0⟩ := (opn_int Try.underlying3) H enc W n _ y0 h0
  obtain ⟨y1, h1⟩ : ∃ y, DataW.trod enc Try.prog W 0 (fun _ => true) true n 3 ((cs.drop 1).take (Try.prog.cellsOf 3)) = some y := by
    have := hg 1 _ rfl
    exact this
  obtain ⟨x1, e1, g1⟩ := (opn_int Try.underlying3) H enc W n _ y1 h1
  obtain ⟨y2, h2⟩ : ∃ y, DataW.trod enc Try.prog W 0 (fun _ => true) true n 3 ((cs.drop 2).take (Try.prog.cellsOf 3)) = some y := by
    have := hg 2 _ rfl
    exact this
  obtain ⟨x2, e2, g2⟩ := (opn_int Try.underlying3) H enc W n _ y2 h2
  obtain ⟨y3, h3⟩ : ∃ y, DataW.trod enc Try.prog W 0 (fun _ => true) true n 49 ((cs.drop 3).take (Try.prog.cellsOf 49)) = some y := by
    have := hg 3 _ rfl
    exact this
  obtain ⟨x3, e3, g3⟩ := ((opn_slice (R := (Rp.slice (Rp.slice rI))) Try.underlying49 (by kernel_rfl) (by decide) ((opn_slice (R := (Rp.slice rI)) Try.underlying50 (by kernel_rfl) (by decide) ((opn_slice (R := rI) Try.underlying71 (by kernel_rfl) (by decide) (opn_int Try.underlying3))))))) H enc W n _ y3 h3
  obtain ⟨y4, h4⟩ : ∃ y, DataW.trod enc Try.prog W 0 (fun _ => true) true n 50 ((cs.drop 4).take (Try.prog.cellsOf 50)) = some y := by
    have := hg 4 _ rfl
    exact this
  obtain ⟨x4, e4, g4⟩ := ((opn_slice (R := (Rp.slice rI)) Try.underlying50 (by kernel_rfl) (by decide) ((opn_slice (R := rI) Try.underlying71 (by kernel_rfl) (by decide) (opn_int Try.underlying3))))) H enc W n _ y4 h4
  match cs, hl with
  | [c0, c1, c2, c3, c4], _ =>
    simp only [CO3] at e0
    have e0' : [c0] = encI x0 := e0
    simp only [CO3] at e1
    have e1' : [c1] = encI x1 := e1
    simp only [CO3] at e2
    have e2' : [c2] = encI x2 := e2
    simp only [CO49] at e3
    obtain ⟨v3, e30, r3⟩ := e3
    have e3' : [c3] = [v3] := e30
    simp only [CO50] at e4
    obtain ⟨v4, e40, r4⟩ := e4
    have e4' : [c4] = [v4] := e40
    cases e0'
    cases e1'
    cases e2'
    cases e3'
    cases e4'
    exact ⟨⟨x0, x1, x2, x3, x4⟩, ⟨_, _, rfl, r3, r4⟩, ⟨g0, g1, g2, g3, g4⟩⟩
structure Act where
  user : Int
  act : Int
def Act.enc (x : Act) : List Value := [.int .i64 x.user, .int .i64 x.act]
abbrev rAct : Rp Act := .flat 2 Act.enc fun _ => rfl
def goodAct (x : Act) : Prop := inI x.user ∧ inI x.act
set_option maxRecDepth 100000 in
theorem opnAct : Opn Try.prog rAct goodAct 87 := by
  intro H enc W fuel cs y h
  obtain ⟨hl, n, hg⟩ := trod_fld Try.underlying87 CO87 h
  obtain ⟨y0, h0⟩ : ∃ y, DataW.trod enc Try.prog W 0 (fun _ => true) true n 3 ((cs.drop 0).take (Try.prog.cellsOf 3)) = some y := by
    have := hg 0 _ rfl
    exact this
  obtain ⟨x0, e0, g0⟩ := (opn_int Try.underlying3) H enc W n _ y0 h0
  obtain ⟨y1, h1⟩ : ∃ y, DataW.trod enc Try.prog W 0 (fun _ => true) true n 3 ((cs.drop 1).take (Try.prog.cellsOf 3)) = some y := by
    have := hg 1 _ rfl
    exact this
  obtain ⟨x1, e1, g1⟩ := (opn_int Try.underlying3) H enc W n _ y1 h1
  match cs, hl with
  | [c0, c1], _ =>
    simp only [CO3] at e0
    have e0' : [c0] = encI x0 := e0
    simp only [CO3] at e1
    have e1' : [c1] = encI x1 := e1
    cases e0'
    cases e1'
    exact ⟨⟨x0, x1⟩, rfl, ⟨g0, g1⟩⟩
end Go.Proofs.Ytafaimklnnpkiaa.Sy
