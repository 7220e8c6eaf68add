/-
  No cell of these rows narrows 'for every input' (looked for: loops, veiled, ifaces, maps, wideKeys, modest, calm, conditions, laid).
  DERIVED. THE GIVEN ROWS OF THIS SEAT. 9 by the template 'for every input the law returns true; each argument reads behind the call as it read before'; 0 by the template 'total and deterministic' (their statements: YtmggbhpieikdpaaTotals.lean).
  GIVEN WITH THE SEED: the statements are not yours to turn. If you find one false, say at which input.
  Laid BY PROGRAM, IN A SANDBOX (cutbox-rows.mjs): the forced cells as the released guide's own fill.sh prints them over the translation 9be8c5a3657ca817… (all of the seat's roots in one cut). By AI agents, Wed Nov 11 2026. No macro, syntax, notation, axiom, sorry.
-/
import Derived.Test.YtmggbhpieikdpaaChecked
import GoSem.Claim
import GoSem.ClaimJoined
import GoSem.ClaimMapViews
import Derived.JoinedTies
import Derived.KernelRfl
namespace Go.Proofs.Ytmggbhpieikdpaa
/- THE CELL 'sum', in the pinned program and in every row, IS THE sha256 OF THE DUMP (.gsa) THAT YtmggbhpieikdpaaProg.lean LOADS. Nothing in Lean hashes anything: it is a label: what it is worth is what the hold of that sum in a sandbox is worth. -/
noncomputable def Try.pinned : Pinned := { name := "ytmggbhpieikdpaa", sum := "9be8c5a3657ca8177b64b9aef594ad45f34fb34b5efbf9612eb14af2cf7b5876", checked := Try.checked }
namespace Rows
def none {H : Type} : Left H := { results := [], args := [] }

/-- 'syllogistlaw.ChoiceReads': WHATEVER THE INPUT: true; the input reads as it did. -/
def choiceReadsSpec : ChangeSpec := { name := "choiceReads", fn := fun _ => fun
  | [d1, d2, d3] => { results := [.lit (.bool true)], args := [d1, d2, d3] }
  | _ => none }
def choiceReadsRow : OpenClaim := { program := "ytmggbhpieikdpaa", sum := "9be8c5a3657ca8177b64b9aef594ad45f34fb34b5efbf9612eb14af2cf7b5876", func := "syllogist/syllogistlaw.ChoiceReads", spec := "choiceReads", recurses := true, plainKeys := false, apart := false }
def ChoiceReadsSaid : Prop := choiceReadsRow.holds Try.pinned (OpenSpec.ofChange choiceReadsSpec)

/-- ITS FALSE NEIGHBOUR: 'it returns false'. Refute it at one input. -/
def choiceReadsWrong : ChangeSpec := { name := "choiceReads", fn := fun _ => fun
  | [d1, d2, d3] => { results := [.lit (.bool false)], args := [d1, d2, d3] }
  | _ => none }
def ChoiceReadsWrongFalsely : Prop := choiceReadsRow.holds Try.pinned (OpenSpec.ofChange choiceReadsWrong)

/-- 'syllogistlaw.ChoiceBuilds': WHATEVER THE INPUT: true; the input reads as it did. -/
def choiceBuildsSpec : ChangeSpec := { name := "choiceBuilds", fn := fun _ => fun
  | [d1, d2] => { results := [.lit (.bool true)], args := [d1, d2] }
  | _ => none }
def choiceBuildsRow : OpenClaim := { program := "ytmggbhpieikdpaa", sum := "9be8c5a3657ca8177b64b9aef594ad45f34fb34b5efbf9612eb14af2cf7b5876", func := "syllogist/syllogistlaw.ChoiceBuilds", spec := "choiceBuilds", recurses := true, plainKeys := false, apart := false }
def ChoiceBuildsSaid : Prop := choiceBuildsRow.holds Try.pinned (OpenSpec.ofChange choiceBuildsSpec)

/-- ITS FALSE NEIGHBOUR: 'it returns false'. Refute it at one input. -/
def choiceBuildsWrong : ChangeSpec := { name := "choiceBuilds", fn := fun _ => fun
  | [d1, d2] => { results := [.lit (.bool false)], args := [d1, d2] }
  | _ => none }
def ChoiceBuildsWrongFalsely : Prop := choiceBuildsRow.holds Try.pinned (OpenSpec.ofChange choiceBuildsWrong)

/-- 'syllogistlaw.ChoiceAnds': WHATEVER THE INPUT: true; the input reads as it did. -/
def choiceAndsSpec : ChangeSpec := { name := "choiceAnds", fn := fun _ => fun
  | [d1, d2, d3, d4, d5] => { results := [.lit (.bool true)], args := [d1, d2, d3, d4, d5] }
  | _ => none }
def choiceAndsRow : OpenClaim := { program := "ytmggbhpieikdpaa", sum := "9be8c5a3657ca8177b64b9aef594ad45f34fb34b5efbf9612eb14af2cf7b5876", func := "syllogist/syllogistlaw.ChoiceAnds", spec := "choiceAnds", unfollowed := true, recurses := true, plainKeys := false, apart := false }
def ChoiceAndsSaid : Prop := choiceAndsRow.holds Try.pinned (OpenSpec.ofChange choiceAndsSpec)

/-- ITS FALSE NEIGHBOUR: 'it returns false'. Refute it at one input. -/
def choiceAndsWrong : ChangeSpec := { name := "choiceAnds", fn := fun _ => fun
  | [d1, d2, d3, d4, d5] => { results := [.lit (.bool false)], args := [d1, d2, d3, d4, d5] }
  | _ => none }
def ChoiceAndsWrongFalsely : Prop := choiceAndsRow.holds Try.pinned (OpenSpec.ofChange choiceAndsWrong)

/-- 'syllogistlaw.ClauseHorns': WHATEVER THE INPUT: true; the input reads as it did. -/
def clauseHornsSpec : ChangeSpec := { name := "clauseHorns", fn := fun _ => fun
  | [d1, d2] => { results := [.lit (.bool true)], args := [d1, d2] }
  | _ => none }
def clauseHornsRow : OpenClaim := { program := "ytmggbhpieikdpaa", sum := "9be8c5a3657ca8177b64b9aef594ad45f34fb34b5efbf9612eb14af2cf7b5876", func := "syllogist/syllogistlaw.ClauseHorns", spec := "clauseHorns", unfollowed := true, recurses := true, plainKeys := false, apart := false }
def ClauseHornsSaid : Prop := clauseHornsRow.holds Try.pinned (OpenSpec.ofChange clauseHornsSpec)

/-- ITS FALSE NEIGHBOUR: 'it returns false'. Refute it at one input. -/
def clauseHornsWrong : ChangeSpec := { name := "clauseHorns", fn := fun _ => fun
  | [d1, d2] => { results := [.lit (.bool false)], args := [d1, d2] }
  | _ => none }
def ClauseHornsWrongFalsely : Prop := clauseHornsRow.holds Try.pinned (OpenSpec.ofChange clauseHornsWrong)

/-- 'syllogistlaw.ClauseSolves': WHATEVER THE INPUT: true; the input reads as it did. -/
def clauseSolvesSpec : ChangeSpec := { name := "clauseSolves", fn := fun _ => fun
  | [d1, d2] => { results := [.lit (.bool true)], args := [d1, d2] }
  | _ => none }
def clauseSolvesRow : OpenClaim := { program := "ytmggbhpieikdpaa", sum := "9be8c5a3657ca8177b64b9aef594ad45f34fb34b5efbf9612eb14af2cf7b5876", func := "syllogist/syllogistlaw.ClauseSolves", spec := "clauseSolves", unfollowed := true, recurses := true, plainKeys := false, apart := false }
def ClauseSolvesSaid : Prop := clauseSolvesRow.holds Try.pinned (OpenSpec.ofChange clauseSolvesSpec)

/-- ITS FALSE NEIGHBOUR: 'it returns false'. Refute it at one input. -/
def clauseSolvesWrong : ChangeSpec := { name := "clauseSolves", fn := fun _ => fun
  | [d1, d2] => { results := [.lit (.bool false)], args := [d1, d2] }
  | _ => none }
def ClauseSolvesWrongFalsely : Prop := clauseSolvesRow.holds Try.pinned (OpenSpec.ofChange clauseSolvesWrong)

/-- 'syllogistlaw.ClauseRefutes': WHATEVER THE INPUT: true; the input reads as it did. -/
def clauseRefutesSpec : ChangeSpec := { name := "clauseRefutes", fn := fun _ => fun
  | [d1, d2] => { results := [.lit (.bool true)], args := [d1, d2] }
  | _ => none }
def clauseRefutesRow : OpenClaim := { program := "ytmggbhpieikdpaa", sum := "9be8c5a3657ca8177b64b9aef594ad45f34fb34b5efbf9612eb14af2cf7b5876", func := "syllogist/syllogistlaw.ClauseRefutes", spec := "clauseRefutes", unfollowed := true, recurses := true, plainKeys := false, apart := false }
def ClauseRefutesSaid : Prop := clauseRefutesRow.holds Try.pinned (OpenSpec.ofChange clauseRefutesSpec)

/-- ITS FALSE NEIGHBOUR: 'it returns false'. Refute it at one input. -/
def clauseRefutesWrong : ChangeSpec := { name := "clauseRefutes", fn := fun _ => fun
  | [d1, d2] => { results := [.lit (.bool false)], args := [d1, d2] }
  | _ => none }
def ClauseRefutesWrongFalsely : Prop := clauseRefutesRow.holds Try.pinned (OpenSpec.ofChange clauseRefutesWrong)

/-- 'syllogistlaw.TwoReaches': WHATEVER THE INPUT: true; the input reads as it did. -/
def twoReachesSpec : ChangeSpec := { name := "twoReaches", fn := fun _ => fun
  | [d1, d2] => { results := [.lit (.bool true)], args := [d1, d2] }
  | _ => none }
def twoReachesRow : OpenClaim := { program := "ytmggbhpieikdpaa", sum := "9be8c5a3657ca8177b64b9aef594ad45f34fb34b5efbf9612eb14af2cf7b5876", func := "syllogist/syllogistlaw.TwoReaches", spec := "twoReaches", plainKeys := false, apart := false }
def TwoReachesSaid : Prop := twoReachesRow.holds Try.pinned (OpenSpec.ofChange twoReachesSpec)

/-- ITS FALSE NEIGHBOUR: 'it returns false'. Refute it at one input. -/
def twoReachesWrong : ChangeSpec := { name := "twoReaches", fn := fun _ => fun
  | [d1, d2] => { results := [.lit (.bool false)], args := [d1, d2] }
  | _ => none }
def TwoReachesWrongFalsely : Prop := twoReachesRow.holds Try.pinned (OpenSpec.ofChange twoReachesWrong)

/-- 'syllogistlaw.TwoStucks': WHATEVER THE INPUT: true; the input reads as it did. -/
def twoStucksSpec : ChangeSpec := { name := "twoStucks", fn := fun _ => fun
  | [d1, d2] => { results := [.lit (.bool true)], args := [d1, d2] }
  | _ => none }
def twoStucksRow : OpenClaim := { program := "ytmggbhpieikdpaa", sum := "9be8c5a3657ca8177b64b9aef594ad45f34fb34b5efbf9612eb14af2cf7b5876", func := "syllogist/syllogistlaw.TwoStucks", spec := "twoStucks", plainKeys := false, apart := false }
def TwoStucksSaid : Prop := twoStucksRow.holds Try.pinned (OpenSpec.ofChange twoStucksSpec)

/-- ITS FALSE NEIGHBOUR: 'it returns false'. Refute it at one input. -/
def twoStucksWrong : ChangeSpec := { name := "twoStucks", fn := fun _ => fun
  | [d1, d2] => { results := [.lit (.bool false)], args := [d1, d2] }
  | _ => none }
def TwoStucksWrongFalsely : Prop := twoStucksRow.holds Try.pinned (OpenSpec.ofChange twoStucksWrong)

/-- 'syllogistlaw.TwoSolves': WHATEVER THE INPUT: true; the input reads as it did. -/
def twoSolvesSpec : ChangeSpec := { name := "twoSolves", fn := fun _ => fun
  | [d1, d2] => { results := [.lit (.bool true)], args := [d1, d2] }
  | _ => none }
def twoSolvesRow : OpenClaim := { program := "ytmggbhpieikdpaa", sum := "9be8c5a3657ca8177b64b9aef594ad45f34fb34b5efbf9612eb14af2cf7b5876", func := "syllogist/syllogistlaw.TwoSolves", spec := "twoSolves", plainKeys := false, apart := false }
def TwoSolvesSaid : Prop := twoSolvesRow.holds Try.pinned (OpenSpec.ofChange twoSolvesSpec)

/-- ITS FALSE NEIGHBOUR: 'it returns false'. Refute it at one input. -/
def twoSolvesWrong : ChangeSpec := { name := "twoSolves", fn := fun _ => fun
  | [d1, d2] => { results := [.lit (.bool false)], args := [d1, d2] }
  | _ => none }
def TwoSolvesWrongFalsely : Prop := twoSolvesRow.holds Try.pinned (OpenSpec.ofChange twoSolvesWrong)

/- THE SECOND FORM. 'bulk': how many values and letters a reading holds, each counted each time it is reached (what is shared counts as often as it is met; a slice's spare places count too). A statement '..UptoSaid' is the law's where the arguments, and the package variables that the reading takes, are together of bulk at most 1048576: NARROWER than '..Said'. Prove '..Said' where nothing that the law and all that it calls make is longer than what came in: it says more and counts as full. Else prove '..UptoSaid'. A law counts once. -/
mutual
def uptoBulk {H : Type} : DataW H → Nat
  | .lit (.string bytes) => bytes.length + 1
  | .lit _ => 1
  | .nil => 1
  | .ptr d => uptoBulk d + 1
  | .slice elems spare => uptoBulkAll elems + uptoBulkAll spare + 1
  | .agg parts => uptoBulkAll parts + 1
  | .iface _ d => uptoBulk d + 1
  | .map entries => uptoBulkEntries entries + 1
  | .held _ => 1
def uptoBulkAll {H : Type} : List (DataW H) → Nat
  | [] => 0
  | d :: r => uptoBulk d + uptoBulkAll r
def uptoBulkEntries {H : Type} : List (Lit × DataW H) → Nat
  | [] => 0
  | x :: r => uptoBulkEntry x + uptoBulkEntries r
def uptoBulkEntry {H : Type} : Lit × DataW H → Nat
  | (.string bytes, d) => bytes.length + uptoBulk d + 1
  | (_, d) => uptoBulk d + 1
 end
def uptoSmall : (H : Type) → List (DataW H) → Bool := fun _ ds => decide (uptoBulkAll ds ≤ 1048576)
def OpenSpec.upto (s : _root_.Go.ChangeSpec) : _root_.Go.OpenSpec := { _root_.Go.OpenSpec.ofChange s with cond := some uptoSmall }

/-- 'syllogistlaw.ChoiceReads', WHERE WHAT IT READS IS OF BULK AT MOST 1048576: true; the input reads as it did. -/
def choiceReadsUptoRow : OpenClaim := { program := "ytmggbhpieikdpaa", sum := "9be8c5a3657ca8177b64b9aef594ad45f34fb34b5efbf9612eb14af2cf7b5876", func := "syllogist/syllogistlaw.ChoiceReads", spec := "choiceReads", recurses := true, plainKeys := false, apart := false, narrowed := true }
def ChoiceReadsUptoSaid : Prop := choiceReadsUptoRow.holds Try.pinned (OpenSpec.upto choiceReadsSpec)

/-- 'syllogistlaw.ChoiceBuilds', WHERE WHAT IT READS IS OF BULK AT MOST 1048576: true; the input reads as it did. -/
def choiceBuildsUptoRow : OpenClaim := { program := "ytmggbhpieikdpaa", sum := "9be8c5a3657ca8177b64b9aef594ad45f34fb34b5efbf9612eb14af2cf7b5876", func := "syllogist/syllogistlaw.ChoiceBuilds", spec := "choiceBuilds", recurses := true, plainKeys := false, apart := false, narrowed := true }
def ChoiceBuildsUptoSaid : Prop := choiceBuildsUptoRow.holds Try.pinned (OpenSpec.upto choiceBuildsSpec)

/-- 'syllogistlaw.ChoiceAnds', WHERE WHAT IT READS IS OF BULK AT MOST 1048576: true; the input reads as it did. -/
def choiceAndsUptoRow : OpenClaim := { program := "ytmggbhpieikdpaa", sum := "9be8c5a3657ca8177b64b9aef594ad45f34fb34b5efbf9612eb14af2cf7b5876", func := "syllogist/syllogistlaw.ChoiceAnds", spec := "choiceAnds", unfollowed := true, recurses := true, plainKeys := false, apart := false, narrowed := true }
def ChoiceAndsUptoSaid : Prop := choiceAndsUptoRow.holds Try.pinned (OpenSpec.upto choiceAndsSpec)

/-- 'syllogistlaw.ClauseHorns', WHERE WHAT IT READS IS OF BULK AT MOST 1048576: true; the input reads as it did. -/
def clauseHornsUptoRow : OpenClaim := { program := "ytmggbhpieikdpaa", sum := "9be8c5a3657ca8177b64b9aef594ad45f34fb34b5efbf9612eb14af2cf7b5876", func := "syllogist/syllogistlaw.ClauseHorns", spec := "clauseHorns", unfollowed := true, recurses := true, plainKeys := false, apart := false, narrowed := true }
def ClauseHornsUptoSaid : Prop := clauseHornsUptoRow.holds Try.pinned (OpenSpec.upto clauseHornsSpec)

/-- 'syllogistlaw.ClauseSolves', WHERE WHAT IT READS IS OF BULK AT MOST 1048576: true; the input reads as it did. -/
def clauseSolvesUptoRow : OpenClaim := { program := "ytmggbhpieikdpaa", sum := "9be8c5a3657ca8177b64b9aef594ad45f34fb34b5efbf9612eb14af2cf7b5876", func := "syllogist/syllogistlaw.ClauseSolves", spec := "clauseSolves", unfollowed := true, recurses := true, plainKeys := false, apart := false, narrowed := true }
def ClauseSolvesUptoSaid : Prop := clauseSolvesUptoRow.holds Try.pinned (OpenSpec.upto clauseSolvesSpec)

/-- 'syllogistlaw.ClauseRefutes', WHERE WHAT IT READS IS OF BULK AT MOST 1048576: true; the input reads as it did. -/
def clauseRefutesUptoRow : OpenClaim := { program := "ytmggbhpieikdpaa", sum := "9be8c5a3657ca8177b64b9aef594ad45f34fb34b5efbf9612eb14af2cf7b5876", func := "syllogist/syllogistlaw.ClauseRefutes", spec := "clauseRefutes", unfollowed := true, recurses := true, plainKeys := false, apart := false, narrowed := true }
def ClauseRefutesUptoSaid : Prop := clauseRefutesUptoRow.holds Try.pinned (OpenSpec.upto clauseRefutesSpec)

/-- 'syllogistlaw.TwoReaches', WHERE WHAT IT READS IS OF BULK AT MOST 1048576: true; the input reads as it did. -/
def twoReachesUptoRow : OpenClaim := { program := "ytmggbhpieikdpaa", sum := "9be8c5a3657ca8177b64b9aef594ad45f34fb34b5efbf9612eb14af2cf7b5876", func := "syllogist/syllogistlaw.TwoReaches", spec := "twoReaches", plainKeys := false, apart := false, narrowed := true }
def TwoReachesUptoSaid : Prop := twoReachesUptoRow.holds Try.pinned (OpenSpec.upto twoReachesSpec)

/-- 'syllogistlaw.TwoStucks', WHERE WHAT IT READS IS OF BULK AT MOST 1048576: true; the input reads as it did. -/
def twoStucksUptoRow : OpenClaim := { program := "ytmggbhpieikdpaa", sum := "9be8c5a3657ca8177b64b9aef594ad45f34fb34b5efbf9612eb14af2cf7b5876", func := "syllogist/syllogistlaw.TwoStucks", spec := "twoStucks", plainKeys := false, apart := false, narrowed := true }
def TwoStucksUptoSaid : Prop := twoStucksUptoRow.holds Try.pinned (OpenSpec.upto twoStucksSpec)

/-- 'syllogistlaw.TwoSolves', WHERE WHAT IT READS IS OF BULK AT MOST 1048576: true; the input reads as it did. -/
def twoSolvesUptoRow : OpenClaim := { program := "ytmggbhpieikdpaa", sum := "9be8c5a3657ca8177b64b9aef594ad45f34fb34b5efbf9612eb14af2cf7b5876", func := "syllogist/syllogistlaw.TwoSolves", spec := "twoSolves", plainKeys := false, apart := false, narrowed := true }
def TwoSolvesUptoSaid : Prop := twoSolvesUptoRow.holds Try.pinned (OpenSpec.upto twoSolvesSpec)

end Rows
end Go.Proofs.Ytmggbhpieikdpaa
