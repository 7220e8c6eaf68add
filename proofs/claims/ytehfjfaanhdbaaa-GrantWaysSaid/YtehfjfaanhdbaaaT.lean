/- The program's structs as plain data, how they lie in cells, and how the rows' readings give them (own lemmas, printed by an own program). -/
import Derived.Test.YtehfjfaanhdbaaaSyN
import Derived.Test.YtehfjfaanhdbaaaProg
namespace Go.Proofs.Ytehfjfaanhdbaaa.Sy
open Go
theorem CO100 : Try.prog.cellsOf 100 = 3 := by kernel_rfl
theorem CO3 : Try.prog.cellsOf 3 = 1 := by kernel_rfl
theorem CO33 : Try.prog.cellsOf 33 = 1 := by kernel_rfl
theorem CO47 : Try.prog.cellsOf 47 = 3 := by kernel_rfl
theorem CO45 : Try.prog.cellsOf 45 = 1 := by kernel_rfl
theorem CO43 : Try.prog.cellsOf 43 = 1 := by kernel_rfl
theorem CO62 : Try.prog.cellsOf 62 = 2 := by kernel_rfl
theorem CO64 : Try.prog.cellsOf 64 = 6 := by kernel_rfl
theorem CO69 : Try.prog.cellsOf 69 = 5 := by kernel_rfl
theorem CO66 : Try.prog.cellsOf 66 = 1 := by kernel_rfl
theorem CO67 : Try.prog.cellsOf 67 = 1 := by kernel_rfl
theorem CO94 : Try.prog.cellsOf 94 = 3 := by kernel_rfl
theorem CO116 : Try.prog.cellsOf 116 = 2 := by kernel_rfl
structure Edge where
  src : Int
  to : Int
  rights : BitVec 32
def Edge.enc (x : Edge) : List Value := [.int .i64 x.src, .int .i64 x.to, .int .u32 (x.rights.toNat : Int)]
abbrev rEdge : Rp Edge := .flat 3 Edge.enc fun _ => rfl
def goodEdge (x : Edge) : Prop := inI x.src ∧ inI x.to ∧ True
set_option maxRecDepth 100000 in
theorem opnEdge : Opn Try.prog rEdge goodEdge 100 := by
  intro H enc W fuel cs y h
  obtain ⟨hl, n, hg⟩ := trod_fld Try.underlying100 CO100 h
  obtain ⟨y0, h0⟩ : ∃ y, DataW.trod enc Try.prog W 0 (fun _ => true) true n 3 ((cs.drop 0).take (Try.prog.cellsOf 3)) = some y := by
    have := hg 0 _ rfl
    exact this
  obtain ⟨x0, e0, g0⟩ := (opn_int Try.underlying3) H enc W n _ y0 h0
  obtain ⟨y1, h1⟩ : ∃ y, DataW.trod enc Try.prog W 0 (fun _ => true) true n 3 ((cs.drop 1).take (Try.prog.cellsOf 3)) = some y := by
    have := hg 1 _ rfl
    exact this
  obtain ⟨x1, e1, g1⟩ := (opn_int Try.underlying3) H enc W n _ y1 h1
  obtain ⟨y2, h2⟩ : ∃ y, DataW.trod enc Try.prog W 0 (fun _ => true) true n 33 ((cs.drop 2).take (Try.prog.cellsOf 33)) = some y := by
    have := hg 2 _ rfl
    exact this
  obtain ⟨x2, e2, g2⟩ := (opn_u32 Try.underlying33) H enc W n _ y2 h2
  match cs, hl with
  | [c0, c1, c2], _ =>
    simp only [CO3] at e0
    have e0' : [c0] = encI x0 := e0
    simp only [CO3] at e1
    have e1' : [c1] = encI x1 := e1
    simp only [CO33] at e2
    have e2' : [c2] = encU x2 := e2
    cases e0'
    cases e1'
    cases e2'
    exact ⟨⟨x0, x1, x2⟩, rfl, ⟨g0, g1, g2⟩⟩
structure Graph where
  codes : List Int
  n : Int
  edges : List Edge
def rGraph : Rp Graph := ⟨3, fun m cs x => ∃ u0 u2 : Value, cs = [u0, .int .i64 x.n, u2] ∧ RS rI m u0 x.codes ∧ RS rEdge m u2 x.edges, fun m m' cs x hm ⟨u0, u2, e, h0, h2⟩ => ⟨u0, u2, e, h0.mono hm, h2.mono hm⟩, fun m cs x ⟨_, _, e, _, _⟩ => by rw [e]; rfl⟩
def goodGraph (x : Graph) : Prop := (∀ qxcodes ∈ x.codes, inI qxcodes) ∧ inI x.n ∧ (∀ qxedges ∈ x.edges, goodEdge qxedges)
set_option maxRecDepth 100000 in
theorem opnGraph : Opn Try.prog rGraph goodGraph 47 := by
  intro H enc W fuel cs y h
  obtain ⟨hl, n, hg⟩ := trod_fld Try.underlying47 CO47 h
  obtain ⟨y0, h0⟩ : ∃ y, DataW.trod enc Try.prog W 0 (fun _ => true) true n 45 ((cs.drop 0).take (Try.prog.cellsOf 45)) = some y := by
    have := hg 0 _ rfl
    exact this
  obtain ⟨x0, e0, g0⟩ := ((opn_slice (R := rI) Try.underlying45 (by kernel_rfl) (by decide) (opn_int Try.underlying25))) H enc W n _ y0 h0
  obtain ⟨y1, h1⟩ : ∃ y, DataW.trod enc Try.prog W 0 (fun _ => true) true n 3 ((cs.drop 1).take (Try.prog.cellsOf 3)) = some y := by
    have := hg 1 _ rfl
    exact this
  obtain ⟨x1, e1, g1⟩ := (opn_int Try.underlying3) H enc W n _ y1 h1
  obtain ⟨y2, h2⟩ : ∃ y, DataW.trod enc Try.prog W 0 (fun _ => true) true n 43 ((cs.drop 2).take (Try.prog.cellsOf 43)) = some y := by
    have := hg 2 _ rfl
    exact this
  obtain ⟨x2, e2, g2⟩ := ((opn_slice (R := rEdge) Try.underlying43 (by kernel_rfl) (by decide) (opnEdge))) H enc W n _ y2 h2
  match cs, hl with
  | [c0, c1, c2], _ =>
    simp only [CO45] at e0
    obtain ⟨v0, e00, r0⟩ := e0
    have e0' : [c0] = [v0] := e00
    simp only [CO3] at e1
    have e1' : [c1] = encI x1 := e1
    simp only [CO43] at e2
    obtain ⟨v2, e20, r2⟩ := e2
    have e2' : [c2] = [v2] := e20
    cases e0'
    cases e1'
    cases e2'
    exact ⟨⟨x0, x1, x2⟩, ⟨_, _, rfl, r0, r2⟩, ⟨g0, g1, g2⟩⟩
structure Label where
  level : Int
  parts : BitVec 32
def Label.enc (x : Label) : List Value := [.int .i64 x.level, .int .u32 (x.parts.toNat : Int)]
abbrev rLabel : Rp Label := .flat 2 Label.enc fun _ => rfl
def goodLabel (x : Label) : Prop := inI x.level ∧ True
set_option maxRecDepth 100000 in
theorem opnLabel : Opn Try.prog rLabel goodLabel 62 := by
  intro H enc W fuel cs y h
  obtain ⟨hl, n, hg⟩ := trod_fld Try.underlying62 CO62 h
  obtain ⟨y0, h0⟩ : ∃ y, DataW.trod enc Try.prog W 0 (fun _ => true) true n 3 ((cs.drop 0).take (Try.prog.cellsOf 3)) = some y := by
    have := hg 0 _ rfl
    exact this
  obtain ⟨x0, e0, g0⟩ := (opn_int Try.underlying3) H enc W n _ y0 h0
  obtain ⟨y1, h1⟩ : ∃ y, DataW.trod enc Try.prog W 0 (fun _ => true) true n 33 ((cs.drop 1).take (Try.prog.cellsOf 33)) = some y := by
    have := hg 1 _ rfl
    exact this
  obtain ⟨x1, e1, g1⟩ := (opn_u32 Try.underlying33) H enc W n _ y1 h1
  match cs, hl with
  | [c0, c1], _ =>
    simp only [CO3] at e0
    have e0' : [c0] = encI x0 := e0
    simp only [CO33] at e1
    have e1' : [c1] = encU x1 := e1
    cases e0'
    cases e1'
    exact ⟨⟨x0, x1⟩, rfl, ⟨g0, g1⟩⟩
structure Deed where
  kind : Int
  by_ : Int
  to : Int
  label : Label
  val : Int
def Deed.enc (x : Deed) : List Value := [.int .i64 x.kind, .int .i64 x.by_, .int .i64 x.to, .int .i64 x.label.level, .int .u32 (x.label.parts.toNat : Int), .int .i64 x.val]
abbrev rDeed : Rp Deed := .flat 6 Deed.enc fun _ => rfl
def goodDeed (x : Deed) : Prop := inI x.kind ∧ inI x.by_ ∧ inI x.to ∧ goodLabel x.label ∧ inI x.val
set_option maxRecDepth 100000 in
theorem opnDeed : Opn Try.prog rDeed goodDeed 64 := by
  intro H enc W fuel cs y h
  obtain ⟨hl, n, hg⟩ := trod_fld Try.underlying64 CO64 h
  obtain ⟨y0, h0⟩ : ∃ y, DataW.trod enc Try.prog W 0 (fun _ => true) true n 3 ((cs.drop 0).take (Try.prog.cellsOf 3)) = some y := by
    have := hg 0 _ rfl
    exact this
  obtain ⟨x0, e0, g0⟩ := (opn_int Try.underlying3) H enc W n _ y0 h0
  obtain ⟨y1, h1⟩ : ∃ y, DataW.trod enc Try.prog W 0 (fun _ => true) true n 3 ((cs.drop 1).take (Try.prog.cellsOf 3)) = some y := by
    have := hg 1 _ rfl
    exact this
  obtain ⟨x1, e1, g1⟩ := (opn_int Try.underlying3) H enc W n _ y1 h1
  obtain ⟨y2, h2⟩ : ∃ y, DataW.trod enc Try.prog W 0 (fun _ => true) true n 3 ((cs.drop 2).take (Try.prog.cellsOf 3)) = some y := by
    have := hg 2 _ rfl
    exact this
  obtain ⟨x2, e2, g2⟩ := (opn_int Try.underlying3) H enc W n _ y2 h2
  obtain ⟨y3, h3⟩ : ∃ y, DataW.trod enc Try.prog W 0 (fun _ => true) true n 62 ((cs.drop 3).take (Try.prog.cellsOf 62)) = some y := by
    have := hg 3 _ rfl
    exact this
  obtain ⟨x3, e3, g3⟩ := (opnLabel) H enc W n _ y3 h3
  obtain ⟨y4, h4⟩ : ∃ y, DataW.trod enc Try.prog W 0 (fun _ => true) true n 3 ((cs.drop 5).take (Try.prog.cellsOf 3)) = some y := by
    have := hg 4 _ rfl
    exact this
  obtain ⟨x4, e4, g4⟩ := (opn_int Try.underlying3) H enc W n _ y4 h4
  match cs, hl with
  | [c0, c1, c2, c3, c4, c5], _ =>
    simp only [CO3] at e0
    have e0' : [c0] = encI x0 := e0
    simp only [CO3] at e1
    have e1' : [c1] = encI x1 := e1
    simp only [CO3] at e2
    have e2' : [c2] = encI x2 := e2
    simp only [CO62] at e3
    have e3' : [c3, c4] = Label.enc x3 := e3
    simp only [CO3] at e4
    have e4' : [c5] = encI x4 := e4
    cases e0'
    cases e1'
    cases e2'
    cases e3'
    cases e4'
    exact ⟨⟨x0, x1, x2, x3, x4⟩, rfl, ⟨g0, g1, g2, g3, g4⟩⟩
structure Machine where
  n : Int
  users : Int
  acts : Int
  next : List (List (List Int))
  sees : List (List Int)
def rMachine : Rp Machine := ⟨5, fun m cs x => ∃ u3 u4 : Value, cs = [.int .i64 x.n, .int .i64 x.users, .int .i64 x.acts, u3, u4] ∧ RS (Rp.slice (Rp.slice rI)) m u3 x.next ∧ RS (Rp.slice rI) m u4 x.sees, fun m m' cs x hm ⟨u3, u4, e, h3, h4⟩ => ⟨u3, u4, e, h3.mono hm, h4.mono hm⟩, fun m cs x ⟨_, _, e, _, _⟩ => by rw [e]; rfl⟩
def goodMachine (x : Machine) : Prop := inI x.n ∧ inI x.users ∧ inI x.acts ∧ (∀ qxnext ∈ x.next, (∀ qqxnext ∈ qxnext, (∀ qqqxnext ∈ qqxnext, inI qqqxnext))) ∧ (∀ qxsees ∈ x.sees, (∀ qqxsees ∈ qxsees, inI qqxsees))
set_option maxRecDepth 100000 in
theorem opnMachine : Opn Try.prog rMachine goodMachine 69 := by
  intro H enc W fuel cs y h
  obtain ⟨hl, n, hg⟩ := trod_fld Try.underlying69 CO69 h
  obtain ⟨y0, h0⟩ : ∃ y, DataW.trod enc Try.prog W 0 (fun _ => true) true n 3 ((cs.drop 0).take (Try.prog.cellsOf 3)) = some y := by
    have := hg 0 _ rfl
    exact this
  obtain ⟨x0, e0, g0⟩ := (opn_int Try.underlying3) H enc W n _ y0 h0
  obtain ⟨y1, h1⟩ : ∃ y, DataW.trod enc Try.prog W 0 (fun _ => true) true n 3 ((cs.drop 1).take (Try.prog.cellsOf 3)) = some y := by
    have := hg 1 _ rfl
    exact this
  obtain ⟨x1, e1, g1⟩ := (opn_int Try.underlying3) H enc W n _ y1 h1
  obtain ⟨y2, h2⟩ : ∃ y, DataW.trod enc Try.prog W 0 (fun _ => true) true n 3 ((cs.drop 2).take (Try.prog.cellsOf 3)) = some y := by
    have := hg 2 _ rfl
    exact this
  obtain ⟨x2, e2, g2⟩ := (opn_int Try.underlying3) H enc W n _ y2 h2
  obtain ⟨y3, h3⟩ : ∃ y, DataW.trod enc Try.prog W 0 (fun _ => true) true n 66 ((cs.drop 3).take (Try.prog.cellsOf 66)) = some y := by
    have := hg 3 _ rfl
    exact this
  obtain ⟨x3, e3, g3⟩ := ((opn_slice (R := (Rp.slice (Rp.slice rI))) Try.underlying66 (by kernel_rfl) (by decide) ((opn_slice (R := (Rp.slice rI)) Try.underlying67 (by kernel_rfl) (by decide) ((opn_slice (R := rI) Try.underlying84 (by kernel_rfl) (by decide) (opn_int Try.underlying3))))))) H enc W n _ y3 h3
  obtain ⟨y4, h4⟩ : ∃ y, DataW.trod enc Try.prog W 0 (fun _ => true) true n 67 ((cs.drop 4).take (Try.prog.cellsOf 67)) = some y := by
    have := hg 4 _ rfl
    exact this
  obtain ⟨x4, e4, g4⟩ := ((opn_slice (R := (Rp.slice rI)) Try.underlying67 (by kernel_rfl) (by decide) ((opn_slice (R := rI) Try.underlying84 (by kernel_rfl) (by decide) (opn_int Try.underlying3))))) H enc W n _ y4 h4
  match cs, hl with
  | [c0, c1, c2, c3, c4], _ =>
    simp only [CO3] at e0
    have e0' : [c0] = encI x0 := e0
    simp only [CO3] at e1
    have e1' : [c1] = encI x1 := e1
    simp only [CO3] at e2
    have e2' : [c2] = encI x2 := e2
    simp only [CO66] at e3
    obtain ⟨v3, e30, r3⟩ := e3
    have e3' : [c3] = [v3] := e30
    simp only [CO67] at e4
    obtain ⟨v4, e40, r4⟩ := e4
    have e4' : [c4] = [v4] := e40
    cases e0'
    cases e1'
    cases e2'
    cases e3'
    cases e4'
    exact ⟨⟨x0, x1, x2, x3, x4⟩, ⟨_, _, rfl, r3, r4⟩, ⟨g0, g1, g2, g3, g4⟩⟩
structure Chain where
  a : BitVec 32
  b : BitVec 32
  c : BitVec 32
def Chain.enc (x : Chain) : List Value := [.int .u32 (x.a.toNat : Int), .int .u32 (x.b.toNat : Int), .int .u32 (x.c.toNat : Int)]
abbrev rChain : Rp Chain := .flat 3 Chain.enc fun _ => rfl
def goodChain (_x : Chain) : Prop := True ∧ True ∧ True
set_option maxRecDepth 100000 in
theorem opnChain : Opn Try.prog rChain goodChain 94 := by
  intro H enc W fuel cs y h
  obtain ⟨hl, n, hg⟩ := trod_fld Try.underlying94 CO94 h
  obtain ⟨y0, h0⟩ : ∃ y, DataW.trod enc Try.prog W 0 (fun _ => true) true n 33 ((cs.drop 0).take (Try.prog.cellsOf 33)) = some y := by
    have := hg 0 _ rfl
    exact this
  obtain ⟨x0, e0, g0⟩ := (opn_u32 Try.underlying33) H enc W n _ y0 h0
  obtain ⟨y1, h1⟩ : ∃ y, DataW.trod enc Try.prog W 0 (fun _ => true) true n 33 ((cs.drop 1).take (Try.prog.cellsOf 33)) = some y := by
    have := hg 1 _ rfl
    exact this
  obtain ⟨x1, e1, g1⟩ := (opn_u32 Try.underlying33) H enc W n _ y1 h1
  obtain ⟨y2, h2⟩ : ∃ y, DataW.trod enc Try.prog W 0 (fun _ => true) true n 33 ((cs.drop 2).take (Try.prog.cellsOf 33)) = some y := by
    have := hg 2 _ rfl
    exact this
  obtain ⟨x2, e2, g2⟩ := (opn_u32 Try.underlying33) H enc W n _ y2 h2
  match cs, hl with
  | [c0, c1, c2], _ =>
    simp only [CO33] at e0
    have e0' : [c0] = encU x0 := e0
    simp only [CO33] at e1
    have e1' : [c1] = encU x1 := e1
    simp only [CO33] at e2
    have e2' : [c2] = encU x2 := e2
    cases e0'
    cases e1'
    cases e2'
    exact ⟨⟨x0, x1, x2⟩, rfl, ⟨g0, g1, g2⟩⟩
structure Act where
  user : Int
  act : Int
def Act.enc (x : Act) : List Value := [.int .i64 x.user, .int .i64 x.act]
abbrev rAct : Rp Act := .flat 2 Act.enc fun _ => rfl
def goodAct (x : Act) : Prop := inI x.user ∧ inI x.act
set_option maxRecDepth 100000 in
theorem opnAct : Opn Try.prog rAct goodAct 116 := by
  intro H enc W fuel cs y h
  obtain ⟨hl, n, hg⟩ := trod_fld Try.underlying116 CO116 h
  obtain ⟨y0, h0⟩ : ∃ y, DataW.trod enc Try.prog W 0 (fun _ => true) true n 3 ((cs.drop 0).take (Try.prog.cellsOf 3)) = some y := by
    have := hg 0 _ rfl
    exact this
  obtain ⟨x0, e0, g0⟩ := (opn_int Try.underlying3) H enc W n _ y0 h0
  obtain ⟨y1, h1⟩ : ∃ y, DataW.trod enc Try.prog W 0 (fun _ => true) true n 3 ((cs.drop 1).take (Try.prog.cellsOf 3)) = some y := by
    have := hg 1 _ rfl
    exact this
  obtain ⟨x1, e1, g1⟩ := (opn_int Try.underlying3) H enc W n _ y1 h1
  match cs, hl with
  | [c0, c1], _ =>
    simp only [CO3] at e0
    have e0' : [c0] = encI x0 := e0
    simp only [CO3] at e1
    have e1' : [c1] = encI x1 := e1
    cases e0'
    cases e1'
    exact ⟨⟨x0, x1⟩, rfl, ⟨g0, g1⟩⟩
end Go.Proofs.Ytehfjfaanhdbaaa.Sy
