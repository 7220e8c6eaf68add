/- The program's structs as plain data, how they lie in cells, and how the rows' readings give them (own lemmas, printed by an own program). -/
import Derived.Test.YtcihfhfolofomaaSyW
import Derived.Test.YtcihfhfolofomaaProg
namespace Go.Proofs.Ytcihfhfolofomaa.Sy
open Go
theorem CO65 : Try.prog.cellsOf 65 = 2 := by kernel_rfl
theorem CO3 : Try.prog.cellsOf 3 = 1 := by kernel_rfl
theorem CO63 : Try.prog.cellsOf 63 = 1 := by kernel_rfl
theorem CO27 : Try.prog.cellsOf 27 = 3 := by kernel_rfl
theorem CO24 : Try.prog.cellsOf 24 = 1 := by kernel_rfl
theorem CO22 : Try.prog.cellsOf 22 = 1 := by kernel_rfl
theorem CO25 : Try.prog.cellsOf 25 = 1 := by kernel_rfl
theorem CO58 : Try.prog.cellsOf 58 = 3 := by kernel_rfl
theorem CO67 : Try.prog.cellsOf 67 = 6 := by kernel_rfl
theorem CO86 : Try.prog.cellsOf 86 = 7 := by kernel_rfl
theorem CO37 : Try.prog.cellsOf 37 = 1 := by kernel_rfl
structure Label where
  level : Int
  parts : BitVec 32
def Label.enc (x : Label) : List Value := [.int .i64 x.level, .int .u32 (x.parts.toNat : Int)]
abbrev rLabel : Rp Label := .flat 2 Label.enc fun _ => rfl
def goodLabel (x : Label) : Prop := inI x.level ∧ True
set_option maxRecDepth 100000 in
theorem opnLabel : Opn Try.prog rLabel goodLabel 65 := by
  intro H enc W fuel cs y h
  obtain ⟨hl, n, hg⟩ := trod_fld Try.underlying65 CO65 h
  obtain ⟨y0, h0⟩ : ∃ y, DataW.trod enc Try.prog W 0 (fun _ => true) true n 3 ((cs.drop 0).take (Try.prog.cellsOf 3)) = some y := by
    have := hg 0 _ rfl
    exact this
  obtain ⟨x0, e0, g0⟩ := (opn_int Try.underlying3) H enc W n _ y0 h0
  obtain ⟨y1, h1⟩ : ∃ y, DataW.trod enc Try.prog W 0 (fun _ => true) true n 63 ((cs.drop 1).take (Try.prog.cellsOf 63)) = some y := by
    have := hg 1 _ rfl
    exact this
  obtain ⟨x1, e1, g1⟩ := (opn_u32 Try.underlying63) H enc W n _ y1 h1
  match cs, hl with
  | [c0, c1], _ =>
    simp only [CO3] at e0
    have e0' : [c0] = encI x0 := e0
    simp only [CO63] at e1
    have e1' : [c1] = encU x1 := e1
    cases e0'
    cases e1'
    exact ⟨⟨x0, x1⟩, rfl, ⟨g0, g1⟩⟩
structure Marked where
  codes : List Int
  marks : List Label
  src : List (BitVec 32)
def rMarked : Rp Marked := ⟨3, fun m cs x => ∃ u0 u1 u2 : Value, cs = [u0, u1, u2] ∧ RS rI m u0 x.codes ∧ RS rLabel m u1 x.marks ∧ RS rU m u2 x.src, fun m m' cs x hm ⟨u0, u1, u2, e, h0, h1, h2⟩ => ⟨u0, u1, u2, e, h0.mono hm, h1.mono hm, h2.mono hm⟩, fun m cs x ⟨_, _, _, e, _, _, _⟩ => by rw [e]; rfl⟩
def goodMarked (x : Marked) : Prop := (∀ qxcodes ∈ x.codes, inI qxcodes) ∧ (∀ qxmarks ∈ x.marks, goodLabel qxmarks) ∧ (∀ qxsrc ∈ x.src, True)
set_option maxRecDepth 100000 in
theorem opnMarked : Opn Try.prog rMarked goodMarked 27 := by
  intro H enc W fuel cs y h
  obtain ⟨hl, n, hg⟩ := trod_fld Try.underlying27 CO27 h
  obtain ⟨y0, h0⟩ : ∃ y, DataW.trod enc Try.prog W 0 (fun _ => true) true n 24 ((cs.drop 0).take (Try.prog.cellsOf 24)) = some y := by
    have := hg 0 _ rfl
    exact this
  obtain ⟨x0, e0, g0⟩ := ((opn_slice (R := rI) Try.underlying24 (by kernel_rfl) (by decide) (opn_int Try.underlying28))) H enc W n _ y0 h0
  obtain ⟨y1, h1⟩ : ∃ y, DataW.trod enc Try.prog W 0 (fun _ => true) true n 22 ((cs.drop 1).take (Try.prog.cellsOf 22)) = some y := by
    have := hg 1 _ rfl
    exact this
  obtain ⟨x1, e1, g1⟩ := ((opn_slice (R := rLabel) Try.underlying22 (by kernel_rfl) (by decide) (opnLabel))) H enc W n _ y1 h1
  obtain ⟨y2, h2⟩ : ∃ y, DataW.trod enc Try.prog W 0 (fun _ => true) true n 25 ((cs.drop 2).take (Try.prog.cellsOf 25)) = some y := by
    have := hg 2 _ rfl
    exact this
  obtain ⟨x2, e2, g2⟩ := ((opn_slice (R := rU) Try.underlying25 (by kernel_rfl) (by decide) (opn_u32 Try.underlying63))) H enc W n _ y2 h2
  match cs, hl with
  | [c0, c1, c2], _ =>
    simp only [CO24] at e0
    obtain ⟨v0, e00, r0⟩ := e0
    have e0' : [c0] = [v0] := e00
    simp only [CO22] at e1
    obtain ⟨v1, e10, r1⟩ := e1
    have e1' : [c1] = [v1] := e10
    simp only [CO25] at e2
    obtain ⟨v2, e20, r2⟩ := e2
    have e2' : [c2] = [v2] := e20
    cases e0'
    cases e1'
    cases e2'
    exact ⟨⟨x0, x1, x2⟩, ⟨_, _, _, rfl, r0, r1, r2⟩, ⟨g0, g1, g2⟩⟩
structure Walled where
  codes : List Int
  read : List (BitVec 32)
  src : List (BitVec 32)
def rWalled : Rp Walled := ⟨3, fun m cs x => ∃ u0 u1 u2 : Value, cs = [u0, u1, u2] ∧ RS rI m u0 x.codes ∧ RS rU m u1 x.read ∧ RS rU m u2 x.src, fun m m' cs x hm ⟨u0, u1, u2, e, h0, h1, h2⟩ => ⟨u0, u1, u2, e, h0.mono hm, h1.mono hm, h2.mono hm⟩, fun m cs x ⟨_, _, _, e, _, _, _⟩ => by rw [e]; rfl⟩
def goodWalled (x : Walled) : Prop := (∀ qxcodes ∈ x.codes, inI qxcodes) ∧ (∀ qxread ∈ x.read, True) ∧ (∀ qxsrc ∈ x.src, True)
set_option maxRecDepth 100000 in
theorem opnWalled : Opn Try.prog rWalled goodWalled 58 := by
  intro H enc W fuel cs y h
  obtain ⟨hl, n, hg⟩ := trod_fld Try.underlying58 CO58 h
  obtain ⟨y0, h0⟩ : ∃ y, DataW.trod enc Try.prog W 0 (fun _ => true) true n 24 ((cs.drop 0).take (Try.prog.cellsOf 24)) = some y := by
    have := hg 0 _ rfl
    exact this
  obtain ⟨x0, e0, g0⟩ := ((opn_slice (R := rI) Try.underlying24 (by kernel_rfl) (by decide) (opn_int Try.underlying28))) H enc W n _ y0 h0
  obtain ⟨y1, h1⟩ : ∃ y, DataW.trod enc Try.prog W 0 (fun _ => true) true n 25 ((cs.drop 1).take (Try.prog.cellsOf 25)) = some y := by
    have := hg 1 _ rfl
    exact this
  obtain ⟨x1, e1, g1⟩ := ((opn_slice (R := rU) Try.underlying25 (by kernel_rfl) (by decide) (opn_u32 Try.underlying63))) H enc W n _ y1 h1
  obtain ⟨y2, h2⟩ : ∃ y, DataW.trod enc Try.prog W 0 (fun _ => true) true n 25 ((cs.drop 2).take (Try.prog.cellsOf 25)) = some y := by
    have := hg 2 _ rfl
    exact this
  obtain ⟨x2, e2, g2⟩ := ((opn_slice (R := rU) Try.underlying25 (by kernel_rfl) (by decide) (opn_u32 Try.underlying63))) H enc W n _ y2 h2
  match cs, hl with
  | [c0, c1, c2], _ =>
    simp only [CO24] at e0
    obtain ⟨v0, e00, r0⟩ := e0
    have e0' : [c0] = [v0] := e00
    simp only [CO25] at e1
    obtain ⟨v1, e10, r1⟩ := e1
    have e1' : [c1] = [v1] := e10
    simp only [CO25] at e2
    obtain ⟨v2, e20, r2⟩ := e2
    have e2' : [c2] = [v2] := e20
    cases e0'
    cases e1'
    cases e2'
    exact ⟨⟨x0, x1, x2⟩, ⟨_, _, _, rfl, r0, r1, r2⟩, ⟨g0, g1, g2⟩⟩
structure Deed where
  kind : Int
  by_ : Int
  to : Int
  label : Label
  val : Int
def Deed.enc (x : Deed) : List Value := [.int .i64 x.kind, .int .i64 x.by_, .int .i64 x.to, .int .i64 x.label.level, .int .u32 (x.label.parts.toNat : Int), .int .i64 x.val]
abbrev rDeed : Rp Deed := .flat 6 Deed.enc fun _ => rfl
def goodDeed (x : Deed) : Prop := inI x.kind ∧ inI x.by_ ∧ inI x.to ∧ goodLabel x.label ∧ inI x.val
set_option maxRecDepth 100000 in
theorem opnDeed : Opn Try.prog rDeed goodDeed 67 := by
  intro H enc W fuel cs y h
  obtain ⟨hl, n, hg⟩ := trod_fld Try.underlying67 CO67 h
  obtain ⟨y0, h0⟩ : ∃ y, DataW.trod enc Try.prog W 0 (fun _ => true) true n 3 ((cs.drop 0).take (Try.prog.cellsOf 3)) = some y := by
    have := hg 0 _ rfl
    exact this
  obtain ⟨x0, e0, g0⟩ := (opn_int Try.underlying3) H enc W n _ y0 h0
  obtain ⟨y1, h1⟩ : ∃ y, DataW.trod enc Try.prog W 0 (fun _ => true) true n 3 ((cs.drop 1).take (Try.prog.cellsOf 3)) = some y := by
    have := hg 1 _ rfl
    exact this
  obtain ⟨x1, e1, g1⟩ := (opn_int Try.underlying3) H enc W n _ y1 h1
  obtain ⟨y2, h2⟩ : ∃ y, DataW.trod enc Try.prog W 0 (fun _ => true) true n 3 ((cs.drop 2).take (Try.prog.cellsOf 3)) = some y := by
    have := hg 2 _ rfl
    exact this
  obtain ⟨x2, e2, g2⟩ := (opn_int Try.underlying3) H enc W n _ y2 h2
  obtain ⟨y3, h3⟩ : ∃ y, DataW.trod enc Try.prog W 0 (fun _ => true) true n 65 ((cs.drop 3).take (Try.prog.cellsOf 65)) = some y := by
    have := hg 3 _ rfl
    exact this
  obtain ⟨x3, e3, g3⟩ := (opnLabel) H enc W n _ y3 h3
  obtain ⟨y4, h4⟩ : ∃ y, DataW.trod enc Try.prog W 0 (fun _ => true) true n 3 ((cs.drop 5).take (Try.prog.cellsOf 3)) = some y := by
    have := hg 4 _ rfl
    exact this
  obtain ⟨x4, e4, g4⟩ := (opn_int Try.underlying3) H enc W n _ y4 h4
  match cs, hl with
  | [c0, c1, c2, c3, c4, c5], _ =>
    simp only [CO3] at e0
    have e0' : [c0] = encI x0 := e0
    simp only [CO3] at e1
    have e1' : [c1] = encI x1 := e1
    simp only [CO3] at e2
    have e2' : [c2] = encI x2 := e2
    simp only [CO65] at e3
    have e3' : [c3, c4] = Label.enc x3 := e3
    simp only [CO3] at e4
    have e4' : [c5] = encI x4 := e4
    cases e0'
    cases e1'
    cases e2'
    cases e3'
    cases e4'
    exact ⟨⟨x0, x1, x2, x3, x4⟩, rfl, ⟨g0, g1, g2, g3, g4⟩⟩
structure Line where
  kind : Int
  to : Int
  a : Int
  b : Int
  val : Int
  body : List Line
  els : List Line
def sLine (R : Rp Line) : Rp Line := ⟨7, fun m cs x => ∃ u5 u6 : Value, cs = [.int .i64 x.kind, .int .i64 x.to, .int .i64 x.a, .int .i64 x.b, .int .i64 x.val, u5, u6] ∧ RS R m u5 x.body ∧ RS R m u6 x.els, fun _ _ _ _ hm ⟨u5, u6, e, h5, h6⟩ => ⟨u5, u6, e, h5.mono hm, h6.mono hm⟩, fun _ _ _ ⟨_, _, e, _, _⟩ => by rw [e]; rfl⟩
def pLine : Nat → Rp Line
  | 0 => ⟨7, fun _ _ _ => False, fun _ _ _ _ _ h => h, fun _ _ _ h => h.elim⟩
  | d + 1 => sLine (pLine d)
theorem pLine_n (d : Nat) : (pLine d).n = 7 := by cases d <;> rfl
theorem pLine_up (m : Snap) (d : Nat) : ∀ cs x, (pLine d).r m cs x → (pLine (d + 1)).r m cs x := by
  induction d with
  | zero => exact fun _ _ h => False.elim h
  | succ d ih =>
    intro cs x h
    obtain ⟨u5, u6, e, h5, h6⟩ := (show ∃ u5 u6 : Value, cs = [.int .i64 x.kind, .int .i64 x.to, .int .i64 x.a, .int .i64 x.b, .int .i64 x.val, u5, u6] ∧ RS (pLine d) m u5 x.body ∧ RS (pLine d) m u6 x.els from h)
    show ∃ u5 u6 : Value, cs = [.int .i64 x.kind, .int .i64 x.to, .int .i64 x.a, .int .i64 x.b, .int .i64 x.val, u5, u6] ∧ RS (pLine (d + 1)) m u5 x.body ∧ RS (pLine (d + 1)) m u6 x.els
    exact ⟨u5, u6, e, RS.imp (by rw [pLine_n, pLine_n]) ih h5, RS.imp (by rw [pLine_n, pLine_n]) ih h6⟩
theorem pLine_le (m : Snap) (d k : Nat) (cs : List Value) (x : Line) (h : (pLine d).r m cs x) : (pLine (d + k)).r m cs x := by
  induction k with
  | zero => exact h
  | succ k ih => exact pLine_up m _ _ _ ih
def rLine : Rp Line := ⟨7, fun m cs x => ∃ d, (pLine d).r m cs x, fun _ _ _ _ hm ⟨d, h⟩ => ⟨d, (pLine d).mono _ _ _ _ hm h⟩, fun _ _ _ ⟨d, h⟩ => ((pLine d).len _ _ _ h).trans (pLine_n d)⟩
theorem rLine_iff {m : Snap} {cs : List Value} {x : Line} : rLine.r m cs x ↔ ∃ u5 u6 : Value, cs = [.int .i64 x.kind, .int .i64 x.to, .int .i64 x.a, .int .i64 x.b, .int .i64 x.val, u5, u6] ∧ RS rLine m u5 x.body ∧ RS rLine m u6 x.els := by
  constructor
  · rintro ⟨d, h⟩
    cases d with
    | zero => exact False.elim h
    | succ d =>
      obtain ⟨u5, u6, e, h5, h6⟩ := (show ∃ u5 u6 : Value, cs = [.int .i64 x.kind, .int .i64 x.to, .int .i64 x.a, .int .i64 x.b, .int .i64 x.val, u5, u6] ∧ RS (pLine d) m u5 x.body ∧ RS (pLine d) m u6 x.els from h)
      exact ⟨u5, u6, e, RS.imp (pLine_n d) (fun _ _ h => ⟨d, h⟩) h5, RS.imp (pLine_n d) (fun _ _ h => ⟨d, h⟩) h6⟩
  · rintro ⟨u5, u6, e, h5, h6⟩
    obtain ⟨d5, g5⟩ := RS.bound (F := pLine) (R := rLine) pLine_n (pLine_up m) (fun _ _ h => h) h5
    obtain ⟨d6, g6⟩ := RS.bound (F := pLine) (R := rLine) pLine_n (pLine_up m) (fun _ _ h => h) h6
    refine ⟨(d5 + d6) + 1, ?_⟩
    show ∃ u5 u6 : Value, cs = [.int .i64 x.kind, .int .i64 x.to, .int .i64 x.a, .int .i64 x.b, .int .i64 x.val, u5, u6] ∧ RS (pLine (d5 + d6)) m u5 x.body ∧ RS (pLine (d5 + d6)) m u6 x.els
    exact ⟨u5, u6, e, RS.imp (by rw [pLine_n, pLine_n]) (fun _ _ h => by rw [show d5 + d6 = d5 + (d6) by omega]; exact pLine_le m _ _ _ _ h) g5, RS.imp (by rw [pLine_n, pLine_n]) (fun _ _ h => by rw [show d5 + d6 = d6 + (d5) by omega]; exact pLine_le m _ _ _ _ h) g6⟩
theorem rLine_el {m : Snap} {v : Value} {xs : List Line} (h : RS rLine m v xs) {i : Int} {x : Line} (hy : geti xs i = some x) : ∃ cs, (∃ u5 u6 : Value, cs = [.int .i64 x.kind, .int .i64 x.to, .int .i64 x.a, .int .i64 x.b, .int .i64 x.val, u5, u6] ∧ RS rLine m u5 x.body ∧ RS rLine m u6 x.els) ∧ At m v (i.toNat * 7) cs := by
  obtain ⟨cs, h1, h2⟩ := h.elB hy
  exact ⟨cs, rLine_iff.1 h1, h2⟩
def goodLine (_x : Line) : Prop := True
set_option maxRecDepth 100000 in
theorem opnBLine : ∀ N, OpnB Try.prog N rLine goodLine 86
  | 0 => fun H enc W fuel cs y hlt h => absurd hlt (by omega)
  | N + 1 => fun H enc W fuel cs y hlt h => by
    obtain ⟨hl, n, hn, hg⟩ := trod_fldB Try.underlying86 CO86 h
    obtain ⟨y0, h0⟩ : ∃ y, DataW.trod enc Try.prog W 0 (fun _ => true) true n 3 ((cs.drop 0).take (Try.prog.cellsOf 3)) = some y := by
      have := hg 0 _ rfl
      exact this
    obtain ⟨x0, e0, g0⟩ := (opn_int Try.underlying3) H enc W n _ y0 h0
    obtain ⟨y1, h1⟩ : ∃ y, DataW.trod enc Try.prog W 0 (fun _ => true) true n 3 ((cs.drop 1).take (Try.prog.cellsOf 3)) = some y := by
      have := hg 1 _ rfl
      exact this
    obtain ⟨x1, e1, g1⟩ := (opn_int Try.underlying3) H enc W n _ y1 h1
    obtain ⟨y2, h2⟩ : ∃ y, DataW.trod enc Try.prog W 0 (fun _ => true) true n 3 ((cs.drop 2).take (Try.prog.cellsOf 3)) = some y := by
      have := hg 2 _ rfl
      exact this
    obtain ⟨x2, e2, g2⟩ := (opn_int Try.underlying3) H enc W n _ y2 h2
    obtain ⟨y3, h3⟩ : ∃ y, DataW.trod enc Try.prog W 0 (fun _ => true) true n 3 ((cs.drop 3).take (Try.prog.cellsOf 3)) = some y := by
      have := hg 3 _ rfl
      exact this
    obtain ⟨x3, e3, g3⟩ := (opn_int Try.underlying3) H enc W n _ y3 h3
    obtain ⟨y4, h4⟩ : ∃ y, DataW.trod enc Try.prog W 0 (fun _ => true) true n 3 ((cs.drop 4).take (Try.prog.cellsOf 3)) = some y := by
      have := hg 4 _ rfl
      exact this
    obtain ⟨x4, e4, g4⟩ := (opn_int Try.underlying3) H enc W n _ y4 h4
    obtain ⟨y5, h5⟩ : ∃ y, DataW.trod enc Try.prog W 0 (fun _ => true) true n 37 ((cs.drop 5).take (Try.prog.cellsOf 37)) = some y := by
      have := hg 5 _ rfl
      exact this
    obtain ⟨x5, e5, g5⟩ := (opnB_slice (R := rLine) Try.underlying37 (by kernel_rfl) (by decide) (opnBLine N)) H enc W n _ y5 (by omega) h5
    obtain ⟨y6, h6⟩ : ∃ y, DataW.trod enc Try.prog W 0 (fun _ => true) true n 37 ((cs.drop 6).take (Try.prog.cellsOf 37)) = some y := by
      have := hg 6 _ rfl
      exact this
    obtain ⟨x6, e6, g6⟩ := (opnB_slice (R := rLine) Try.underlying37 (by kernel_rfl) (by decide) (opnBLine N)) H enc W n _ y6 (by omega) h6
    match cs, hl with
    | [c0, c1, c2, c3, c4, c5, c6], _ =>
      simp only [CO3] at e0
      have e0' : [c0] = encI x0 := e0
      simp only [CO3] at e1
      have e1' : [c1] = encI x1 := e1
      simp only [CO3] at e2
      have e2' : [c2] = encI x2 := e2
      simp only [CO3] at e3
      have e3' : [c3] = encI x3 := e3
      simp only [CO3] at e4
      have e4' : [c4] = encI x4 := e4
      simp only [CO37] at e5
      obtain ⟨v5, e50, r5⟩ := e5
      have e5' : [c5] = [v5] := e50
      simp only [CO37] at e6
      obtain ⟨v6, e60, r6⟩ := e6
      have e6' : [c6] = [v6] := e60
      cases e0'
      cases e1'
      cases e2'
      cases e3'
      cases e4'
      cases e5'
      cases e6'
      exact ⟨⟨x0, x1, x2, x3, x4, x5, x6⟩, rLine_iff.2 ⟨_, _, rfl, r5, r6⟩, trivial⟩
theorem opnLine : Opn Try.prog rLine goodLine 86 := Opn.of opnBLine
theorem BO86 : Try.prog.bytesOf 86 = 88 := by kernel_rfl
/-- As long as memory may be, and all that it holds. -/
inductive smLine : List Line → Prop
  | mk {l : List Line} (h : l.length * 88 ≤ reachBytes) (h5 : ∀ x ∈ l, smLine x.body) (h6 : ∀ x ∈ l, smLine x.els) : smLine l
def gsLine (x : Line) : Prop := smLine x.body ∧ smLine x.els
theorem smLine_of {xs : List Line} (h : xs.length * Try.prog.bytesOf 86 ≤ reachBytes ∧ ∀ x ∈ xs, gsLine x) : smLine xs := ⟨by rw [← BO86]; exact h.1, fun x hx => (h.2 x hx).1, fun x hx => (h.2 x hx).2⟩
set_option maxRecDepth 100000 in
theorem opnSLine : ∀ N, OpnS Try.prog N rLine gsLine 86
  | 0 => fun H enc W fuel cs y hlt h hw => absurd hlt (by omega)
  | N + 1 => fun H enc W fuel cs y hlt h hw => by
    obtain ⟨hl, n, hn, hg⟩ := trod_fldS Try.underlying86 CO86 h hw
    obtain ⟨y0, h0, w0⟩ : ∃ y, DataW.trod enc Try.prog W 0 (fun _ => true) true n 3 ((cs.drop 0).take (Try.prog.cellsOf 3)) = some y ∧ okW Try.prog 3 y.1 := by
      have := hg 0 _ rfl
      exact this
    obtain ⟨x0, e0, g0⟩ := (opn_int Try.underlying3) H enc W n _ y0 h0
    obtain ⟨y1, h1, w1⟩ : ∃ y, DataW.trod enc Try.prog W 0 (fun _ => true) true n 3 ((cs.drop 1).take (Try.prog.cellsOf 3)) = some y ∧ okW Try.prog 3 y.1 := by
      have := hg 1 _ rfl
      exact this
    obtain ⟨x1, e1, g1⟩ := (opn_int Try.underlying3) H enc W n _ y1 h1
    obtain ⟨y2, h2, w2⟩ : ∃ y, DataW.trod enc Try.prog W 0 (fun _ => true) true n 3 ((cs.drop 2).take (Try.prog.cellsOf 3)) = some y ∧ okW Try.prog 3 y.1 := by
      have := hg 2 _ rfl
      exact this
    obtain ⟨x2, e2, g2⟩ := (opn_int Try.underlying3) H enc W n _ y2 h2
    obtain ⟨y3, h3, w3⟩ : ∃ y, DataW.trod enc Try.prog W 0 (fun _ => true) true n 3 ((cs.drop 3).take (Try.prog.cellsOf 3)) = some y ∧ okW Try.prog 3 y.1 := by
      have := hg 3 _ rfl
      exact this
    obtain ⟨x3, e3, g3⟩ := (opn_int Try.underlying3) H enc W n _ y3 h3
    obtain ⟨y4, h4, w4⟩ : ∃ y, DataW.trod enc Try.prog W 0 (fun _ => true) true n 3 ((cs.drop 4).take (Try.prog.cellsOf 3)) = some y ∧ okW Try.prog 3 y.1 := by
      have := hg 4 _ rfl
      exact this
    obtain ⟨x4, e4, g4⟩ := (opn_int Try.underlying3) H enc W n _ y4 h4
    obtain ⟨y5, h5, w5⟩ : ∃ y, DataW.trod enc Try.prog W 0 (fun _ => true) true n 37 ((cs.drop 5).take (Try.prog.cellsOf 37)) = some y ∧ okW Try.prog 37 y.1 := by
      have := hg 5 _ rfl
      exact this
    obtain ⟨x5, e5, g5⟩ := (opnS_slice (R := rLine) Try.underlying37 (by kernel_rfl) (by decide) (opnSLine N)) H enc W n _ y5 (by omega) h5 w5
    obtain ⟨y6, h6, w6⟩ : ∃ y, DataW.trod enc Try.prog W 0 (fun _ => true) true n 37 ((cs.drop 6).take (Try.prog.cellsOf 37)) = some y ∧ okW Try.prog 37 y.1 := by
      have := hg 6 _ rfl
      exact this
    obtain ⟨x6, e6, g6⟩ := (opnS_slice (R := rLine) Try.underlying37 (by kernel_rfl) (by decide) (opnSLine N)) H enc W n _ y6 (by omega) h6 w6
    match cs, hl with
    | [c0, c1, c2, c3, c4, c5, c6], _ =>
      simp only [CO3] at e0
      have e0' : [c0] = encI x0 := e0
      simp only [CO3] at e1
      have e1' : [c1] = encI x1 := e1
      simp only [CO3] at e2
      have e2' : [c2] = encI x2 := e2
      simp only [CO3] at e3
      have e3' : [c3] = encI x3 := e3
      simp only [CO3] at e4
      have e4' : [c4] = encI x4 := e4
      simp only [CO37] at e5
      obtain ⟨v5, e50, r5⟩ := e5
      have e5' : [c5] = [v5] := e50
      simp only [CO37] at e6
      obtain ⟨v6, e60, r6⟩ := e6
      have e6' : [c6] = [v6] := e60
      cases e0'
      cases e1'
      cases e2'
      cases e3'
      cases e4'
      cases e5'
      cases e6'
      exact ⟨⟨x0, x1, x2, x3, x4, x5, x6⟩, rLine_iff.2 ⟨_, _, rfl, r5, r6⟩, smLine_of g5, smLine_of g6⟩
theorem opnSsLine : ∀ N, OpnS Try.prog N rLine.slice smLine 37
  | 0 => fun H enc W fuel cs y hlt h hw => absurd hlt (by omega)
  | N + 1 => fun H enc W fuel cs y hlt h hw => by
    obtain ⟨x, hx, hg⟩ := opnS_slice (R := rLine) Try.underlying37 (by kernel_rfl) (by decide) (opnSLine N) H enc W fuel cs y hlt h hw
    exact ⟨x, hx, smLine_of hg⟩
end Go.Proofs.Ytcihfhfolofomaa.Sy
