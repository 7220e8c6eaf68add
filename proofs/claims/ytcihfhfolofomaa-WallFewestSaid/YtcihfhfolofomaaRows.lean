/-
  NARROWER THAN 'FOR EVERY INPUT', by the rows' own cells (each row's printed sentence says how): FlowRuns: loops · FlowCleans: loops · FlowRaises: loops.
  DERIVED. THE GIVEN ROWS OF THIS SEAT. 7 by the template 'for every input the law returns true; each argument reads behind the call as it read before'; 0 by the template 'total and deterministic' (their statements: YtcihfhfolofomaaTotals.lean).
  GIVEN WITH THE SEED: the statements are not yours to turn. If you find one false, say at which input.
  Laid BY PROGRAM, IN A SANDBOX (cutbox-rows.mjs): the forced cells as the released guide's own fill.sh prints them over the translation c6874346c1e72f2e… (all of the seat's roots in one cut). By AI agents, Wed Nov 11 2026. No macro, syntax, notation, axiom, sorry.
-/
import Derived.Test.YtcihfhfolofomaaChecked
import GoSem.Claim
import GoSem.ClaimJoined
import GoSem.ClaimMapViews
import Derived.JoinedTies
import Derived.KernelRfl
namespace Go.Proofs.Ytcihfhfolofomaa
/- THE CELL 'sum', in the pinned program and in every row, IS THE sha256 OF THE DUMP (.gsa) THAT YtcihfhfolofomaaProg.lean LOADS. Nothing in Lean hashes anything: it is a label: what it is worth is what the hold of that sum in a sandbox is worth. -/
noncomputable def Try.pinned : Pinned := { name := "ytcihfhfolofomaa", sum := "c6874346c1e72f2ee53e0ae2020306c1d02ee97d5346d3c4f4feb8fb23cea03b", checked := Try.checked }
namespace Rows
def none {H : Type} : Left H := { results := [], args := [] }

/-- 'syllogistlaw.MarkPlays': WHATEVER THE INPUT: true; the input reads as it did. -/
def markPlaysSpec : ChangeSpec := { name := "markPlays", fn := fun _ => fun
  | [d1, d2, d3] => { results := [.lit (.bool true)], args := [d1, d2, d3] }
  | _ => none }
def markPlaysRow : OpenClaim := { program := "ytcihfhfolofomaa", sum := "c6874346c1e72f2ee53e0ae2020306c1d02ee97d5346d3c4f4feb8fb23cea03b", func := "syllogist/syllogistlaw.MarkPlays", spec := "markPlays", unfollowed := true, recurses := true, apart := false }
def MarkPlaysSaid : Prop := markPlaysRow.holds Try.pinned (OpenSpec.ofChange markPlaysSpec)

/-- ITS FALSE NEIGHBOUR: 'it returns false'. Refute it at one input. -/
def markPlaysWrong : ChangeSpec := { name := "markPlays", fn := fun _ => fun
  | [d1, d2, d3] => { results := [.lit (.bool false)], args := [d1, d2, d3] }
  | _ => none }
def MarkPlaysWrongFalsely : Prop := markPlaysRow.holds Try.pinned (OpenSpec.ofChange markPlaysWrong)

/-- 'syllogistlaw.LowPlays': WHATEVER THE INPUT: true; the input reads as it did. -/
def lowPlaysSpec : ChangeSpec := { name := "lowPlays", fn := fun _ => fun
  | [d1, d2, d3] => { results := [.lit (.bool true)], args := [d1, d2, d3] }
  | _ => none }
def lowPlaysRow : OpenClaim := { program := "ytcihfhfolofomaa", sum := "c6874346c1e72f2ee53e0ae2020306c1d02ee97d5346d3c4f4feb8fb23cea03b", func := "syllogist/syllogistlaw.LowPlays", spec := "lowPlays", apart := false }
def LowPlaysSaid : Prop := lowPlaysRow.holds Try.pinned (OpenSpec.ofChange lowPlaysSpec)

/-- ITS FALSE NEIGHBOUR: 'it returns false'. Refute it at one input. -/
def lowPlaysWrong : ChangeSpec := { name := "lowPlays", fn := fun _ => fun
  | [d1, d2, d3] => { results := [.lit (.bool false)], args := [d1, d2, d3] }
  | _ => none }
def LowPlaysWrongFalsely : Prop := lowPlaysRow.holds Try.pinned (OpenSpec.ofChange lowPlaysWrong)

/-- 'syllogistlaw.FlowRuns': WHATEVER THE INPUT: true; the input reads as it did. -/
def flowRunsSpec : ChangeSpec := { name := "flowRuns", fn := fun _ => fun
  | [d1, d2, d3] => { results := [.lit (.bool true)], args := [d1, d2, d3] }
  | _ => none }
def flowRunsRow : OpenClaim := { program := "ytcihfhfolofomaa", sum := "c6874346c1e72f2ee53e0ae2020306c1d02ee97d5346d3c4f4feb8fb23cea03b", func := "syllogist/syllogistlaw.FlowRuns", spec := "flowRuns", unfollowed := true, recurses := true, loops := true, apart := false }
def FlowRunsSaid : Prop := flowRunsRow.holds Try.pinned (OpenSpec.ofChange flowRunsSpec)

/-- ITS FALSE NEIGHBOUR: 'it returns false'. Refute it at one input. -/
def flowRunsWrong : ChangeSpec := { name := "flowRuns", fn := fun _ => fun
  | [d1, d2, d3] => { results := [.lit (.bool false)], args := [d1, d2, d3] }
  | _ => none }
def FlowRunsWrongFalsely : Prop := flowRunsRow.holds Try.pinned (OpenSpec.ofChange flowRunsWrong)

/-- 'syllogistlaw.FlowCleans': WHATEVER THE INPUT: true; the input reads as it did. -/
def flowCleansSpec : ChangeSpec := { name := "flowCleans", fn := fun _ => fun
  | [d1, d2, d3] => { results := [.lit (.bool true)], args := [d1, d2, d3] }
  | _ => none }
def flowCleansRow : OpenClaim := { program := "ytcihfhfolofomaa", sum := "c6874346c1e72f2ee53e0ae2020306c1d02ee97d5346d3c4f4feb8fb23cea03b", func := "syllogist/syllogistlaw.FlowCleans", spec := "flowCleans", unfollowed := true, recurses := true, loops := true, apart := false }
def FlowCleansSaid : Prop := flowCleansRow.holds Try.pinned (OpenSpec.ofChange flowCleansSpec)

/-- ITS FALSE NEIGHBOUR: 'it returns false'. Refute it at one input. -/
def flowCleansWrong : ChangeSpec := { name := "flowCleans", fn := fun _ => fun
  | [d1, d2, d3] => { results := [.lit (.bool false)], args := [d1, d2, d3] }
  | _ => none }
def FlowCleansWrongFalsely : Prop := flowCleansRow.holds Try.pinned (OpenSpec.ofChange flowCleansWrong)

/-- 'syllogistlaw.FlowRaises': WHATEVER THE INPUT: true; the input reads as it did. -/
def flowRaisesSpec : ChangeSpec := { name := "flowRaises", fn := fun _ => fun
  | [d1, d2, d3] => { results := [.lit (.bool true)], args := [d1, d2, d3] }
  | _ => none }
def flowRaisesRow : OpenClaim := { program := "ytcihfhfolofomaa", sum := "c6874346c1e72f2ee53e0ae2020306c1d02ee97d5346d3c4f4feb8fb23cea03b", func := "syllogist/syllogistlaw.FlowRaises", spec := "flowRaises", unfollowed := true, recurses := true, loops := true, apart := false }
def FlowRaisesSaid : Prop := flowRaisesRow.holds Try.pinned (OpenSpec.ofChange flowRaisesSpec)

/-- ITS FALSE NEIGHBOUR: 'it returns false'. Refute it at one input. -/
def flowRaisesWrong : ChangeSpec := { name := "flowRaises", fn := fun _ => fun
  | [d1, d2, d3] => { results := [.lit (.bool false)], args := [d1, d2, d3] }
  | _ => none }
def FlowRaisesWrongFalsely : Prop := flowRaisesRow.holds Try.pinned (OpenSpec.ofChange flowRaisesWrong)

/-- 'syllogistlaw.WallFewest': WHATEVER THE INPUT: true; the input reads as it did. -/
def wallFewestSpec : ChangeSpec := { name := "wallFewest", fn := fun _ => fun
  | [d1, d2] => { results := [.lit (.bool true)], args := [d1, d2] }
  | _ => none }
def wallFewestRow : OpenClaim := { program := "ytcihfhfolofomaa", sum := "c6874346c1e72f2ee53e0ae2020306c1d02ee97d5346d3c4f4feb8fb23cea03b", func := "syllogist/syllogistlaw.WallFewest", spec := "wallFewest", unfollowed := true, recurses := true, apart := false }
def WallFewestSaid : Prop := wallFewestRow.holds Try.pinned (OpenSpec.ofChange wallFewestSpec)

/-- ITS FALSE NEIGHBOUR: 'it returns false'. Refute it at one input. -/
def wallFewestWrong : ChangeSpec := { name := "wallFewest", fn := fun _ => fun
  | [d1, d2] => { results := [.lit (.bool false)], args := [d1, d2] }
  | _ => none }
def WallFewestWrongFalsely : Prop := wallFewestRow.holds Try.pinned (OpenSpec.ofChange wallFewestWrong)

/-- 'syllogistlaw.WallPlays': WHATEVER THE INPUT: true; the input reads as it did. -/
def wallPlaysSpec : ChangeSpec := { name := "wallPlays", fn := fun _ => fun
  | [d1, d2, d3, d4] => { results := [.lit (.bool true)], args := [d1, d2, d3, d4] }
  | _ => none }
def wallPlaysRow : OpenClaim := { program := "ytcihfhfolofomaa", sum := "c6874346c1e72f2ee53e0ae2020306c1d02ee97d5346d3c4f4feb8fb23cea03b", func := "syllogist/syllogistlaw.WallPlays", spec := "wallPlays", unfollowed := true, recurses := true, apart := false }
def WallPlaysSaid : Prop := wallPlaysRow.holds Try.pinned (OpenSpec.ofChange wallPlaysSpec)

/-- ITS FALSE NEIGHBOUR: 'it returns false'. Refute it at one input. -/
def wallPlaysWrong : ChangeSpec := { name := "wallPlays", fn := fun _ => fun
  | [d1, d2, d3, d4] => { results := [.lit (.bool false)], args := [d1, d2, d3, d4] }
  | _ => none }
def WallPlaysWrongFalsely : Prop := wallPlaysRow.holds Try.pinned (OpenSpec.ofChange wallPlaysWrong)

/- THE SECOND FORM. 'bulk': how many values and letters a reading holds, each counted each time it is reached (what is shared counts as often as it is met; a slice's spare places count too). A statement '..UptoSaid' is the law's where the arguments, and the package variables that the reading takes, are together of bulk at most 1048576: NARROWER than '..Said'. Prove '..Said' where nothing that the law and all that it calls make is longer than what came in: it says more and counts as full. Else prove '..UptoSaid'. A law counts once. -/
mutual
def uptoBulk {H : Type} : DataW H → Nat
  | .lit (.string bytes) => bytes.length + 1
  | .lit _ => 1
  | .nil => 1
  | .ptr d => uptoBulk d + 1
  | .slice elems spare => uptoBulkAll elems + uptoBulkAll spare + 1
  | .agg parts => uptoBulkAll parts + 1
  | .iface _ d => uptoBulk d + 1
  | .map entries => uptoBulkEntries entries + 1
  | .held _ => 1
def uptoBulkAll {H : Type} : List (DataW H) → Nat
  | [] => 0
  | d :: r => uptoBulk d + uptoBulkAll r
def uptoBulkEntries {H : Type} : List (Lit × DataW H) → Nat
  | [] => 0
  | x :: r => uptoBulkEntry x + uptoBulkEntries r
def uptoBulkEntry {H : Type} : Lit × DataW H → Nat
  | (.string bytes, d) => bytes.length + uptoBulk d + 1
  | (_, d) => uptoBulk d + 1
 end
def uptoSmall : (H : Type) → List (DataW H) → Bool := fun _ ds => decide (uptoBulkAll ds ≤ 1048576)
def OpenSpec.upto (s : _root_.Go.ChangeSpec) : _root_.Go.OpenSpec := { _root_.Go.OpenSpec.ofChange s with cond := some uptoSmall }

/-- 'syllogistlaw.MarkPlays', WHERE WHAT IT READS IS OF BULK AT MOST 1048576: true; the input reads as it did. -/
def markPlaysUptoRow : OpenClaim := { program := "ytcihfhfolofomaa", sum := "c6874346c1e72f2ee53e0ae2020306c1d02ee97d5346d3c4f4feb8fb23cea03b", func := "syllogist/syllogistlaw.MarkPlays", spec := "markPlays", unfollowed := true, recurses := true, apart := false, narrowed := true }
def MarkPlaysUptoSaid : Prop := markPlaysUptoRow.holds Try.pinned (OpenSpec.upto markPlaysSpec)

/-- 'syllogistlaw.LowPlays', WHERE WHAT IT READS IS OF BULK AT MOST 1048576: true; the input reads as it did. -/
def lowPlaysUptoRow : OpenClaim := { program := "ytcihfhfolofomaa", sum := "c6874346c1e72f2ee53e0ae2020306c1d02ee97d5346d3c4f4feb8fb23cea03b", func := "syllogist/syllogistlaw.LowPlays", spec := "lowPlays", apart := false, narrowed := true }
def LowPlaysUptoSaid : Prop := lowPlaysUptoRow.holds Try.pinned (OpenSpec.upto lowPlaysSpec)

/-- 'syllogistlaw.FlowRuns', WHERE WHAT IT READS IS OF BULK AT MOST 1048576: true; the input reads as it did. -/
def flowRunsUptoRow : OpenClaim := { program := "ytcihfhfolofomaa", sum := "c6874346c1e72f2ee53e0ae2020306c1d02ee97d5346d3c4f4feb8fb23cea03b", func := "syllogist/syllogistlaw.FlowRuns", spec := "flowRuns", unfollowed := true, recurses := true, loops := true, apart := false, narrowed := true }
def FlowRunsUptoSaid : Prop := flowRunsUptoRow.holds Try.pinned (OpenSpec.upto flowRunsSpec)

/-- 'syllogistlaw.FlowCleans', WHERE WHAT IT READS IS OF BULK AT MOST 1048576: true; the input reads as it did. -/
def flowCleansUptoRow : OpenClaim := { program := "ytcihfhfolofomaa", sum := "c6874346c1e72f2ee53e0ae2020306c1d02ee97d5346d3c4f4feb8fb23cea03b", func := "syllogist/syllogistlaw.FlowCleans", spec := "flowCleans", unfollowed := true, recurses := true, loops := true, apart := false, narrowed := true }
def FlowCleansUptoSaid : Prop := flowCleansUptoRow.holds Try.pinned (OpenSpec.upto flowCleansSpec)

/-- 'syllogistlaw.FlowRaises', WHERE WHAT IT READS IS OF BULK AT MOST 1048576: true; the input reads as it did. -/
def flowRaisesUptoRow : OpenClaim := { program := "ytcihfhfolofomaa", sum := "c6874346c1e72f2ee53e0ae2020306c1d02ee97d5346d3c4f4feb8fb23cea03b", func := "syllogist/syllogistlaw.FlowRaises", spec := "flowRaises", unfollowed := true, recurses := true, loops := true, apart := false, narrowed := true }
def FlowRaisesUptoSaid : Prop := flowRaisesUptoRow.holds Try.pinned (OpenSpec.upto flowRaisesSpec)

/-- 'syllogistlaw.WallFewest', WHERE WHAT IT READS IS OF BULK AT MOST 1048576: true; the input reads as it did. -/
def wallFewestUptoRow : OpenClaim := { program := "ytcihfhfolofomaa", sum := "c6874346c1e72f2ee53e0ae2020306c1d02ee97d5346d3c4f4feb8fb23cea03b", func := "syllogist/syllogistlaw.WallFewest", spec := "wallFewest", unfollowed := true, recurses := true, apart := false, narrowed := true }
def WallFewestUptoSaid : Prop := wallFewestUptoRow.holds Try.pinned (OpenSpec.upto wallFewestSpec)

/-- 'syllogistlaw.WallPlays', WHERE WHAT IT READS IS OF BULK AT MOST 1048576: true; the input reads as it did. -/
def wallPlaysUptoRow : OpenClaim := { program := "ytcihfhfolofomaa", sum := "c6874346c1e72f2ee53e0ae2020306c1d02ee97d5346d3c4f4feb8fb23cea03b", func := "syllogist/syllogistlaw.WallPlays", spec := "wallPlays", unfollowed := true, recurses := true, apart := false, narrowed := true }
def WallPlaysUptoSaid : Prop := wallPlaysUptoRow.holds Try.pinned (OpenSpec.upto wallPlaysSpec)

end Rows
end Go.Proofs.Ytcihfhfolofomaa
