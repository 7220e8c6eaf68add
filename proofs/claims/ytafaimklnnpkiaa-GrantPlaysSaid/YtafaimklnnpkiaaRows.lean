/-
  No cell of these rows narrows 'for every input' (looked for: loops, veiled, ifaces, maps, wideKeys, modest, calm, conditions, laid).
  DERIVED. THE GIVEN ROWS OF THIS SEAT. 4 by the template 'for every input the law returns true; each argument reads behind the call as it read before'; 0 by the template 'total and deterministic' (their statements: YtafaimklnnpkiaaTotals.lean).
  GIVEN WITH THE SEED: the statements are not yours to turn. If you find one false, say at which input.
  Laid BY PROGRAM, IN A SANDBOX (cutbox-rows.mjs): the forced cells as the released guide's own fill.sh prints them over the translation a6fc39f4d4b9e5e4… (all of the seat's roots in one cut). By AI agents, Wed Nov 11 2026. No macro, syntax, notation, axiom, sorry.
-/
import Derived.Test.YtafaimklnnpkiaaChecked
import GoSem.Claim
import GoSem.ClaimJoined
import GoSem.ClaimMapViews
import Derived.JoinedTies
import Derived.KernelRfl
namespace Go.Proofs.Ytafaimklnnpkiaa
/- THE CELL 'sum', in the pinned program and in every row, IS THE sha256 OF THE DUMP (.gsa) THAT YtafaimklnnpkiaaProg.lean LOADS. Nothing in Lean hashes anything: it is a label: what it is worth is what the hold of that sum in a sandbox is worth. -/
noncomputable def Try.pinned : Pinned := { name := "ytafaimklnnpkiaa", sum := "a6fc39f4d4b9e5e4424eb5dc1affed480eeed886c4538025767af11bf188ddd2", checked := Try.checked }
namespace Rows
def none {H : Type} : Left H := { results := [], args := [] }

/-- 'syllogistlaw.GrantPlays': WHATEVER THE INPUT: true; the input reads as it did. -/
def grantPlaysSpec : ChangeSpec := { name := "grantPlays", fn := fun _ => fun
  | [d1, d2, d3] => { results := [.lit (.bool true)], args := [d1, d2, d3] }
  | _ => none }
def grantPlaysRow : OpenClaim := { program := "ytafaimklnnpkiaa", sum := "a6fc39f4d4b9e5e4424eb5dc1affed480eeed886c4538025767af11bf188ddd2", func := "syllogist/syllogistlaw.GrantPlays", spec := "grantPlays", unfollowed := true, recurses := true, plainKeys := false, apart := false }
def GrantPlaysSaid : Prop := grantPlaysRow.holds Try.pinned (OpenSpec.ofChange grantPlaysSpec)

/-- ITS FALSE NEIGHBOUR: 'it returns false'. Refute it at one input. -/
def grantPlaysWrong : ChangeSpec := { name := "grantPlays", fn := fun _ => fun
  | [d1, d2, d3] => { results := [.lit (.bool false)], args := [d1, d2, d3] }
  | _ => none }
def GrantPlaysWrongFalsely : Prop := grantPlaysRow.holds Try.pinned (OpenSpec.ofChange grantPlaysWrong)

/-- 'syllogistlaw.GrantCans': WHATEVER THE INPUT: true; the input reads as it did. -/
def grantCansSpec : ChangeSpec := { name := "grantCans", fn := fun _ => fun
  | [d1, d2, d3, d4, d5] => { results := [.lit (.bool true)], args := [d1, d2, d3, d4, d5] }
  | _ => none }
def grantCansRow : OpenClaim := { program := "ytafaimklnnpkiaa", sum := "a6fc39f4d4b9e5e4424eb5dc1affed480eeed886c4538025767af11bf188ddd2", func := "syllogist/syllogistlaw.GrantCans", spec := "grantCans", plainKeys := false, apart := false }
def GrantCansSaid : Prop := grantCansRow.holds Try.pinned (OpenSpec.ofChange grantCansSpec)

/-- ITS FALSE NEIGHBOUR: 'it returns false'. Refute it at one input. -/
def grantCansWrong : ChangeSpec := { name := "grantCans", fn := fun _ => fun
  | [d1, d2, d3, d4, d5] => { results := [.lit (.bool false)], args := [d1, d2, d3, d4, d5] }
  | _ => none }
def GrantCansWrongFalsely : Prop := grantCansRow.holds Try.pinned (OpenSpec.ofChange grantCansWrong)

/-- 'syllogistlaw.GrantWays': WHATEVER THE INPUT: true; the input reads as it did. -/
def grantWaysSpec : ChangeSpec := { name := "grantWays", fn := fun _ => fun
  | [d1, d2, d3, d4, d5] => { results := [.lit (.bool true)], args := [d1, d2, d3, d4, d5] }
  | _ => none }
def grantWaysRow : OpenClaim := { program := "ytafaimklnnpkiaa", sum := "a6fc39f4d4b9e5e4424eb5dc1affed480eeed886c4538025767af11bf188ddd2", func := "syllogist/syllogistlaw.GrantWays", spec := "grantWays", unfollowed := true, recurses := true, plainKeys := false, apart := false }
def GrantWaysSaid : Prop := grantWaysRow.holds Try.pinned (OpenSpec.ofChange grantWaysSpec)

/-- ITS FALSE NEIGHBOUR: 'it returns false'. Refute it at one input. -/
def grantWaysWrong : ChangeSpec := { name := "grantWays", fn := fun _ => fun
  | [d1, d2, d3, d4, d5] => { results := [.lit (.bool false)], args := [d1, d2, d3, d4, d5] }
  | _ => none }
def GrantWaysWrongFalsely : Prop := grantWaysRow.holds Try.pinned (OpenSpec.ofChange grantWaysWrong)

/-- 'syllogistlaw.ViewLeaks': WHATEVER THE INPUT: true; the input reads as it did. -/
def viewLeaksSpec : ChangeSpec := { name := "viewLeaks", fn := fun _ => fun
  | [d1, d2] => { results := [.lit (.bool true)], args := [d1, d2] }
  | _ => none }
def viewLeaksRow : OpenClaim := { program := "ytafaimklnnpkiaa", sum := "a6fc39f4d4b9e5e4424eb5dc1affed480eeed886c4538025767af11bf188ddd2", func := "syllogist/syllogistlaw.ViewLeaks", spec := "viewLeaks", unfollowed := true, recurses := true, plainKeys := false, apart := false }
def ViewLeaksSaid : Prop := viewLeaksRow.holds Try.pinned (OpenSpec.ofChange viewLeaksSpec)

/-- ITS FALSE NEIGHBOUR: 'it returns false'. Refute it at one input. -/
def viewLeaksWrong : ChangeSpec := { name := "viewLeaks", fn := fun _ => fun
  | [d1, d2] => { results := [.lit (.bool false)], args := [d1, d2] }
  | _ => none }
def ViewLeaksWrongFalsely : Prop := viewLeaksRow.holds Try.pinned (OpenSpec.ofChange viewLeaksWrong)

/- THE SECOND FORM. 'bulk': how many values and letters a reading holds, each counted each time it is reached (what is shared counts as often as it is met; a slice's spare places count too). A statement '..UptoSaid' is the law's where the arguments, and the package variables that the reading takes, are together of bulk at most 1048576: NARROWER than '..Said'. Prove '..Said' where nothing that the law and all that it calls make is longer than what came in: it says more and counts as full. Else prove '..UptoSaid'. A law counts once. -/
mutual
def uptoBulk {H : Type} : DataW H → Nat
  | .lit (.string bytes) => bytes.length + 1
  | .lit _ => 1
  | .nil => 1
  | .ptr d => uptoBulk d + 1
  | .slice elems spare => uptoBulkAll elems + uptoBulkAll spare + 1
  | .agg parts => uptoBulkAll parts + 1
  | .iface _ d => uptoBulk d + 1
  | .map entries => uptoBulkEntries entries + 1
  | .held _ => 1
def uptoBulkAll {H : Type} : List (DataW H) → Nat
  | [] => 0
  | d :: r => uptoBulk d + uptoBulkAll r
def uptoBulkEntries {H : Type} : List (Lit × DataW H) → Nat
  | [] => 0
  | x :: r => uptoBulkEntry x + uptoBulkEntries r
def uptoBulkEntry {H : Type} : Lit × DataW H → Nat
  | (.string bytes, d) => bytes.length + uptoBulk d + 1
  | (_, d) => uptoBulk d + 1
 end
def uptoSmall : (H : Type) → List (DataW H) → Bool := fun _ ds => decide (uptoBulkAll ds ≤ 1048576)
def OpenSpec.upto (s : _root_.Go.ChangeSpec) : _root_.Go.OpenSpec := { _root_.Go.OpenSpec.ofChange s with cond := some uptoSmall }

/-- 'syllogistlaw.GrantPlays', WHERE WHAT IT READS IS OF BULK AT MOST 1048576: true; the input reads as it did. -/
def grantPlaysUptoRow : OpenClaim := { program := "ytafaimklnnpkiaa", sum := "a6fc39f4d4b9e5e4424eb5dc1affed480eeed886c4538025767af11bf188ddd2", func := "syllogist/syllogistlaw.GrantPlays", spec := "grantPlays", unfollowed := true, recurses := true, plainKeys := false, apart := false, narrowed := true }
def GrantPlaysUptoSaid : Prop := grantPlaysUptoRow.holds Try.pinned (OpenSpec.upto grantPlaysSpec)

/-- 'syllogistlaw.GrantCans', WHERE WHAT IT READS IS OF BULK AT MOST 1048576: true; the input reads as it did. -/
def grantCansUptoRow : OpenClaim := { program := "ytafaimklnnpkiaa", sum := "a6fc39f4d4b9e5e4424eb5dc1affed480eeed886c4538025767af11bf188ddd2", func := "syllogist/syllogistlaw.GrantCans", spec := "grantCans", plainKeys := false, apart := false, narrowed := true }
def GrantCansUptoSaid : Prop := grantCansUptoRow.holds Try.pinned (OpenSpec.upto grantCansSpec)

/-- 'syllogistlaw.GrantWays', WHERE WHAT IT READS IS OF BULK AT MOST 1048576: true; the input reads as it did. -/
def grantWaysUptoRow : OpenClaim := { program := "ytafaimklnnpkiaa", sum := "a6fc39f4d4b9e5e4424eb5dc1affed480eeed886c4538025767af11bf188ddd2", func := "syllogist/syllogistlaw.GrantWays", spec := "grantWays", unfollowed := true, recurses := true, plainKeys := false, apart := false, narrowed := true }
def GrantWaysUptoSaid : Prop := grantWaysUptoRow.holds Try.pinned (OpenSpec.upto grantWaysSpec)

/-- 'syllogistlaw.ViewLeaks', WHERE WHAT IT READS IS OF BULK AT MOST 1048576: true; the input reads as it did. -/
def viewLeaksUptoRow : OpenClaim := { program := "ytafaimklnnpkiaa", sum := "a6fc39f4d4b9e5e4424eb5dc1affed480eeed886c4538025767af11bf188ddd2", func := "syllogist/syllogistlaw.ViewLeaks", spec := "viewLeaks", unfollowed := true, recurses := true, plainKeys := false, apart := false, narrowed := true }
def ViewLeaksUptoSaid : Prop := viewLeaksUptoRow.holds Try.pinned (OpenSpec.upto viewLeaksSpec)

end Rows
end Go.Proofs.Ytafaimklnnpkiaa
