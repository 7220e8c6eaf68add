/- The program's structs as plain data, how they lie in cells, and how the rows' readings give them (own lemmas, printed by an own program). -/
import Derived.Test.YtbbenieabpmghaaSyN
import Derived.Test.YtbbenieabpmghaaProg
namespace Go.Proofs.Ytbbenieabpmghaa.Sy
open Go
theorem CO25 : Try.prog.cellsOf 25 = 5 := by kernel_rfl
theorem CO3 : Try.prog.cellsOf 3 = 1 := by kernel_rfl
theorem CO22 : Try.prog.cellsOf 22 = 1 := by kernel_rfl
theorem CO23 : Try.prog.cellsOf 23 = 1 := by kernel_rfl
theorem CO43 : Try.prog.cellsOf 43 = 2 := by kernel_rfl
structure Machine where
  n : Int
  users : Int
  acts : Int
  next : List (List (List Int))
  sees : List (List Int)
def rMachine : Rp Machine := ⟨5, fun m cs x => ∃ u3 u4 : Value, cs = [.int .i64 x.n, .int .i64 x.users, .int .i64 x.acts, u3, u4] ∧ RS (Rp.slice (Rp.slice rI)) m u3 x.next ∧ RS (Rp.slice rI) m u4 x.sees, fun m m' cs x hm ⟨u3, u4, e, h3, h4⟩ => ⟨u3, u4, e, h3.mono hm, h4.mono hm⟩, fun m cs x ⟨_, _, e, _, _⟩ => by rw [e]; rfl⟩
def goodMachine (x : Machine) : Prop := inI x.n ∧ inI x.users ∧ inI x.acts ∧ (∀ qxnext ∈ x.next, (∀ qqxnext ∈ qxnext, (∀ qqqxnext ∈ qqxnext, inI qqqxnext))) ∧ (∀ qxsees ∈ x.sees, (∀ qqxsees ∈ qxsees, inI qqxsees))
set_option maxRecDepth 100000 in
theorem opnMachine : Opn Try.prog rMachine goodMachine 25 := by
  intro H enc W fuel cs y h
  obtain ⟨hl, n, hg⟩ := trod_fld Try.underlying25 CO25 h
  obtain ⟨y0, h0⟩ : ∃ y, DataW.trod enc Try.prog W 0 (fun _ => true) true n 3 ((cs.drop 0).take (Try.prog.cellsOf 3)) = some y := by
    have := hg 0 _ rfl
    exact this
  obtain ⟨x0, e0, g0⟩ := (opn_int Try.underlying3) H enc W n _ y0 h0
  obtain ⟨y1, h1⟩ : ∃ y, DataW.trod enc Try.prog W 0 (fun _ => true) true n 3 ((cs.drop 1).take (Try.prog.cellsOf 3)) = some y := by
    have := hg 1 _ rfl
    exact this
  obtain ⟨x1, e1, g1⟩ := (opn_int Try.underlying3) H enc W n _ y1 h1
  obtain ⟨y2, h2⟩ : ∃ y, DataW.trod enc Try.prog W 0 (fun _ => true) true n 3 ((cs.drop 2).take (Try.prog.cellsOf 3)) = some y := by
    have := hg 2 _ rfl
    exact this
  obtain ⟨x2, e2, g2⟩ := (opn_int Try.underlying3) H enc W n _ y2 h2
  obtain ⟨y3, h3⟩ : ∃ y, DataW.trod enc Try.prog W 0 (fun _ => true) true n 22 ((cs.drop 3).take (Try.prog.cellsOf 22)) = some y := by
    have := hg 3 _ rfl
    exact this
  obtain ⟨x3, e3, g3⟩ := ((opn_slice (R := (Rp.slice (Rp.slice rI))) Try.underlying22 (by kernel_rfl) (by decide) ((opn_slice (R := (Rp.slice rI)) Try.underlying23 (by kernel_rfl) (by decide) ((opn_slice (R := rI) Try.underlying40 (by kernel_rfl) (by decide) (opn_int Try.underlying3))))))) H enc W n _ y3 h3
  obtain ⟨y4, h4⟩ : ∃ y, DataW.trod enc Try.prog W 0 (fun _ => true) true n 23 ((cs.drop 4).take (Try.prog.cellsOf 23)) = some y := by
    have := hg 4 _ rfl
    exact this
  obtain ⟨x4, e4, g4⟩ := ((opn_slice (R := (Rp.slice rI)) Try.underlying23 (by kernel_rfl) (by decide) ((opn_slice (R := rI) Try.underlying40 (by kernel_rfl) (by decide) (opn_int Try.underlying3))))) H enc W n _ y4 h4
  match cs, hl with
  | [c0, c1, c2, c3, c4], _ =>
    simp only [CO3] at e0
    have e0' : [c0] = encI x0 := e0
    simp only [CO3] at e1
    have e1' : [c1] = encI x1 := e1
    simp only [CO3] at e2
    have e2' : [c2] = encI x2 := e2
    simp only [CO22] at e3
    obtain ⟨v3, e30, r3⟩ := e3
    have e3' : [c3] = [v3] := e30
    simp only [CO23] at e4
    obtain ⟨v4, e40, r4⟩ := e4
    have e4' : [c4] = [v4] := e40
    cases e0'
    cases e1'
    cases e2'
    cases e3'
    cases e4'
    exact ⟨⟨x0, x1, x2, x3, x4⟩, ⟨_, _, rfl, r3, r4⟩, ⟨g0, g1, g2, g3, g4⟩⟩
structure Act where
  user : Int
  act : Int
def Act.enc (x : Act) : List Value := [.int .i64 x.user, .int .i64 x.act]
abbrev rAct : Rp Act := .flat 2 Act.enc fun _ => rfl
def goodAct (x : Act) : Prop := inI x.user ∧ inI x.act
set_option maxRecDepth 100000 in
theorem opnAct : Opn Try.prog rAct goodAct 43 := by
  intro H enc W fuel cs y h
  obtain ⟨hl, n, hg⟩ := trod_fld Try.underlying43 CO43 h
  obtain ⟨y0, h0⟩ : ∃ y, DataW.trod enc Try.prog W 0 (fun _ => true) true n 3 ((cs.drop 0).take (Try.prog.cellsOf 3)) = some y := by
    have := hg 0 _ rfl
    exact this
  obtain ⟨x0, e0, g0⟩ := (opn_int Try.underlying3) H enc W n _ y0 h0
  obtain ⟨y1, h1⟩ : ∃ y, DataW.trod enc Try.prog W 0 (fun _ => true) true n 3 ((cs.drop 1).take (Try.prog.cellsOf 3)) = some y := by
    have := hg 1 _ rfl
    exact this
  obtain ⟨x1, e1, g1⟩ := (opn_int Try.underlying3) H enc W n _ y1 h1
  match cs, hl with
  | [c0, c1], _ =>
    simp only [CO3] at e0
    have e0' : [c0] = encI x0 := e0
    simp only [CO3] at e1
    have e1' : [c1] = encI x1 := e1
    cases e0'
    cases e1'
    exact ⟨⟨x0, x1⟩, rfl, ⟨g0, g1⟩⟩
end Go.Proofs.Ytbbenieabpmghaa.Sy
