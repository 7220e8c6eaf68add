/-
  No cell of these rows narrows 'for every input' (looked for: loops, veiled, ifaces, maps, wideKeys, modest, calm, conditions, laid).
  DERIVED. THE GIVEN ROWS OF THIS SEAT. 10 by the template 'for every input the law returns true; each argument reads behind the call as it read before'; 0 by the template 'total and deterministic' (their statements: YtehfjfaanhdbaaaTotals.lean).
  GIVEN WITH THE SEED: the statements are not yours to turn. If you find one false, say at which input.
  Laid BY PROGRAM, IN A SANDBOX (cutbox-rows.mjs): the forced cells as the released guide's own fill.sh prints them over the translation 07a5a8916cbddbbd… (all of the seat's roots in one cut). By AI agents, Wed Nov 11 2026. No macro, syntax, notation, axiom, sorry.
-/
import Derived.Test.YtehfjfaanhdbaaaChecked
import GoSem.Claim
import GoSem.ClaimJoined
import GoSem.ClaimMapViews
import Derived.JoinedTies
import Derived.KernelRfl
namespace Go.Proofs.Ytehfjfaanhdbaaa
/- THE CELL 'sum', in the pinned program and in every row, IS THE sha256 OF THE DUMP (.gsa) THAT YtehfjfaanhdbaaaProg.lean LOADS. Nothing in Lean hashes anything: it is a label: what it is worth is what the hold of that sum in a sandbox is worth. -/
noncomputable def Try.pinned : Pinned := { name := "ytehfjfaanhdbaaa", sum := "07a5a8916cbddbbda6feaf5f4b6a3c0af89f8fb741978a5cbd052263871bf278", checked := Try.checked }
namespace Rows
def none {H : Type} : Left H := { results := [], args := [] }

/-- 'syllogistlaw.RightsCloses': WHATEVER THE INPUT: true; the input reads as it did. -/
def rightsClosesSpec : ChangeSpec := { name := "rightsCloses", fn := fun _ => fun
  | [d1, d2, d3] => { results := [.lit (.bool true)], args := [d1, d2, d3] }
  | _ => none }
def rightsClosesRow : OpenClaim := { program := "ytehfjfaanhdbaaa", sum := "07a5a8916cbddbbda6feaf5f4b6a3c0af89f8fb741978a5cbd052263871bf278", func := "syllogist/syllogistlaw.RightsCloses", spec := "rightsCloses", unfollowed := true, recurses := true, plainKeys := false, apart := false }
def RightsClosesSaid : Prop := rightsClosesRow.holds Try.pinned (OpenSpec.ofChange rightsClosesSpec)

/-- ITS FALSE NEIGHBOUR: 'it returns false'. Refute it at one input. -/
def rightsClosesWrong : ChangeSpec := { name := "rightsCloses", fn := fun _ => fun
  | [d1, d2, d3] => { results := [.lit (.bool false)], args := [d1, d2, d3] }
  | _ => none }
def RightsClosesWrongFalsely : Prop := rightsClosesRow.holds Try.pinned (OpenSpec.ofChange rightsClosesWrong)

/-- 'syllogistlaw.RightsSteps': WHATEVER THE INPUT: true; the input reads as it did. -/
def rightsStepsSpec : ChangeSpec := { name := "rightsSteps", fn := fun _ => fun
  | [d1, d2, d3, d4, d5, d6] => { results := [.lit (.bool true)], args := [d1, d2, d3, d4, d5, d6] }
  | _ => none }
def rightsStepsRow : OpenClaim := { program := "ytehfjfaanhdbaaa", sum := "07a5a8916cbddbbda6feaf5f4b6a3c0af89f8fb741978a5cbd052263871bf278", func := "syllogist/syllogistlaw.RightsSteps", spec := "rightsSteps", unfollowed := true, recurses := true, plainKeys := false, apart := false }
def RightsStepsSaid : Prop := rightsStepsRow.holds Try.pinned (OpenSpec.ofChange rightsStepsSpec)

/-- ITS FALSE NEIGHBOUR: 'it returns false'. Refute it at one input. -/
def rightsStepsWrong : ChangeSpec := { name := "rightsSteps", fn := fun _ => fun
  | [d1, d2, d3, d4, d5, d6] => { results := [.lit (.bool false)], args := [d1, d2, d3, d4, d5, d6] }
  | _ => none }
def RightsStepsWrongFalsely : Prop := rightsStepsRow.holds Try.pinned (OpenSpec.ofChange rightsStepsWrong)

/-- 'syllogistlaw.RightsSafes': WHATEVER THE INPUT: true; the input reads as it did. -/
def rightsSafesSpec : ChangeSpec := { name := "rightsSafes", fn := fun _ => fun
  | [d1, d2, d3, d4, d5, d6] => { results := [.lit (.bool true)], args := [d1, d2, d3, d4, d5, d6] }
  | _ => none }
def rightsSafesRow : OpenClaim := { program := "ytehfjfaanhdbaaa", sum := "07a5a8916cbddbbda6feaf5f4b6a3c0af89f8fb741978a5cbd052263871bf278", func := "syllogist/syllogistlaw.RightsSafes", spec := "rightsSafes", unfollowed := true, recurses := true, plainKeys := false, apart := false }
def RightsSafesSaid : Prop := rightsSafesRow.holds Try.pinned (OpenSpec.ofChange rightsSafesSpec)

/-- ITS FALSE NEIGHBOUR: 'it returns false'. Refute it at one input. -/
def rightsSafesWrong : ChangeSpec := { name := "rightsSafes", fn := fun _ => fun
  | [d1, d2, d3, d4, d5, d6] => { results := [.lit (.bool false)], args := [d1, d2, d3, d4, d5, d6] }
  | _ => none }
def RightsSafesWrongFalsely : Prop := rightsSafesRow.holds Try.pinned (OpenSpec.ofChange rightsSafesWrong)

/-- 'syllogistlaw.GrantPlays': WHATEVER THE INPUT: true; the input reads as it did. -/
def grantPlaysSpec : ChangeSpec := { name := "grantPlays", fn := fun _ => fun
  | [d1, d2, d3] => { results := [.lit (.bool true)], args := [d1, d2, d3] }
  | _ => none }
def grantPlaysRow : OpenClaim := { program := "ytehfjfaanhdbaaa", sum := "07a5a8916cbddbbda6feaf5f4b6a3c0af89f8fb741978a5cbd052263871bf278", func := "syllogist/syllogistlaw.GrantPlays", spec := "grantPlays", unfollowed := true, recurses := true, plainKeys := false, apart := false }
def GrantPlaysSaid : Prop := grantPlaysRow.holds Try.pinned (OpenSpec.ofChange grantPlaysSpec)

/-- ITS FALSE NEIGHBOUR: 'it returns false'. Refute it at one input. -/
def grantPlaysWrong : ChangeSpec := { name := "grantPlays", fn := fun _ => fun
  | [d1, d2, d3] => { results := [.lit (.bool false)], args := [d1, d2, d3] }
  | _ => none }
def GrantPlaysWrongFalsely : Prop := grantPlaysRow.holds Try.pinned (OpenSpec.ofChange grantPlaysWrong)

/-- 'syllogistlaw.GrantCans': WHATEVER THE INPUT: true; the input reads as it did. -/
def grantCansSpec : ChangeSpec := { name := "grantCans", fn := fun _ => fun
  | [d1, d2, d3, d4, d5] => { results := [.lit (.bool true)], args := [d1, d2, d3, d4, d5] }
  | _ => none }
def grantCansRow : OpenClaim := { program := "ytehfjfaanhdbaaa", sum := "07a5a8916cbddbbda6feaf5f4b6a3c0af89f8fb741978a5cbd052263871bf278", func := "syllogist/syllogistlaw.GrantCans", spec := "grantCans", plainKeys := false, apart := false }
def GrantCansSaid : Prop := grantCansRow.holds Try.pinned (OpenSpec.ofChange grantCansSpec)

/-- ITS FALSE NEIGHBOUR: 'it returns false'. Refute it at one input. -/
def grantCansWrong : ChangeSpec := { name := "grantCans", fn := fun _ => fun
  | [d1, d2, d3, d4, d5] => { results := [.lit (.bool false)], args := [d1, d2, d3, d4, d5] }
  | _ => none }
def GrantCansWrongFalsely : Prop := grantCansRow.holds Try.pinned (OpenSpec.ofChange grantCansWrong)

/-- 'syllogistlaw.GrantWays': WHATEVER THE INPUT: true; the input reads as it did. -/
def grantWaysSpec : ChangeSpec := { name := "grantWays", fn := fun _ => fun
  | [d1, d2, d3, d4, d5] => { results := [.lit (.bool true)], args := [d1, d2, d3, d4, d5] }
  | _ => none }
def grantWaysRow : OpenClaim := { program := "ytehfjfaanhdbaaa", sum := "07a5a8916cbddbbda6feaf5f4b6a3c0af89f8fb741978a5cbd052263871bf278", func := "syllogist/syllogistlaw.GrantWays", spec := "grantWays", unfollowed := true, recurses := true, plainKeys := false, apart := false }
def GrantWaysSaid : Prop := grantWaysRow.holds Try.pinned (OpenSpec.ofChange grantWaysSpec)

/-- ITS FALSE NEIGHBOUR: 'it returns false'. Refute it at one input. -/
def grantWaysWrong : ChangeSpec := { name := "grantWays", fn := fun _ => fun
  | [d1, d2, d3, d4, d5] => { results := [.lit (.bool false)], args := [d1, d2, d3, d4, d5] }
  | _ => none }
def GrantWaysWrongFalsely : Prop := grantWaysRow.holds Try.pinned (OpenSpec.ofChange grantWaysWrong)

/-- 'syllogistlaw.ViewChecks': WHATEVER THE INPUT: true; the input reads as it did. -/
def viewChecksSpec : ChangeSpec := { name := "viewChecks", fn := fun _ => fun
  | [d] => { results := [.lit (.bool true)], args := [d] }
  | _ => none }
def viewChecksRow : OpenClaim := { program := "ytehfjfaanhdbaaa", sum := "07a5a8916cbddbbda6feaf5f4b6a3c0af89f8fb741978a5cbd052263871bf278", func := "syllogist/syllogistlaw.ViewChecks", spec := "viewChecks", unfollowed := true, recurses := true, plainKeys := false, apart := false }
def ViewChecksSaid : Prop := viewChecksRow.holds Try.pinned (OpenSpec.ofChange viewChecksSpec)

/-- ITS FALSE NEIGHBOUR: 'it returns false'. Refute it at one input. -/
def viewChecksWrong : ChangeSpec := { name := "viewChecks", fn := fun _ => fun
  | [d] => { results := [.lit (.bool false)], args := [d] }
  | _ => none }
def ViewChecksWrongFalsely : Prop := viewChecksRow.holds Try.pinned (OpenSpec.ofChange viewChecksWrong)

/-- 'syllogistlaw.ViewRuns': WHATEVER THE INPUT: true; the input reads as it did. -/
def viewRunsSpec : ChangeSpec := { name := "viewRuns", fn := fun _ => fun
  | [d1, d2] => { results := [.lit (.bool true)], args := [d1, d2] }
  | _ => none }
def viewRunsRow : OpenClaim := { program := "ytehfjfaanhdbaaa", sum := "07a5a8916cbddbbda6feaf5f4b6a3c0af89f8fb741978a5cbd052263871bf278", func := "syllogist/syllogistlaw.ViewRuns", spec := "viewRuns", unfollowed := true, recurses := true, plainKeys := false, apart := false }
def ViewRunsSaid : Prop := viewRunsRow.holds Try.pinned (OpenSpec.ofChange viewRunsSpec)

/-- ITS FALSE NEIGHBOUR: 'it returns false'. Refute it at one input. -/
def viewRunsWrong : ChangeSpec := { name := "viewRuns", fn := fun _ => fun
  | [d1, d2] => { results := [.lit (.bool false)], args := [d1, d2] }
  | _ => none }
def ViewRunsWrongFalsely : Prop := viewRunsRow.holds Try.pinned (OpenSpec.ofChange viewRunsWrong)

/-- 'syllogistlaw.ViewLeaks': WHATEVER THE INPUT: true; the input reads as it did. -/
def viewLeaksSpec : ChangeSpec := { name := "viewLeaks", fn := fun _ => fun
  | [d1, d2] => { results := [.lit (.bool true)], args := [d1, d2] }
  | _ => none }
def viewLeaksRow : OpenClaim := { program := "ytehfjfaanhdbaaa", sum := "07a5a8916cbddbbda6feaf5f4b6a3c0af89f8fb741978a5cbd052263871bf278", func := "syllogist/syllogistlaw.ViewLeaks", spec := "viewLeaks", unfollowed := true, recurses := true, plainKeys := false, apart := false }
def ViewLeaksSaid : Prop := viewLeaksRow.holds Try.pinned (OpenSpec.ofChange viewLeaksSpec)

/-- ITS FALSE NEIGHBOUR: 'it returns false'. Refute it at one input. -/
def viewLeaksWrong : ChangeSpec := { name := "viewLeaks", fn := fun _ => fun
  | [d1, d2] => { results := [.lit (.bool false)], args := [d1, d2] }
  | _ => none }
def ViewLeaksWrongFalsely : Prop := viewLeaksRow.holds Try.pinned (OpenSpec.ofChange viewLeaksWrong)

/-- 'syllogistlaw.ViewParts': WHATEVER THE INPUT: true; the input reads as it did. -/
def viewPartsSpec : ChangeSpec := { name := "viewParts", fn := fun _ => fun
  | [d1, d2] => { results := [.lit (.bool true)], args := [d1, d2] }
  | _ => none }
def viewPartsRow : OpenClaim := { program := "ytehfjfaanhdbaaa", sum := "07a5a8916cbddbbda6feaf5f4b6a3c0af89f8fb741978a5cbd052263871bf278", func := "syllogist/syllogistlaw.ViewParts", spec := "viewParts", unfollowed := true, recurses := true, plainKeys := false, apart := false }
def ViewPartsSaid : Prop := viewPartsRow.holds Try.pinned (OpenSpec.ofChange viewPartsSpec)

/-- ITS FALSE NEIGHBOUR: 'it returns false'. Refute it at one input. -/
def viewPartsWrong : ChangeSpec := { name := "viewParts", fn := fun _ => fun
  | [d1, d2] => { results := [.lit (.bool false)], args := [d1, d2] }
  | _ => none }
def ViewPartsWrongFalsely : Prop := viewPartsRow.holds Try.pinned (OpenSpec.ofChange viewPartsWrong)

/- THE SECOND FORM. 'bulk': how many values and letters a reading holds, each counted each time it is reached (what is shared counts as often as it is met; a slice's spare places count too). A statement '..UptoSaid' is the law's where the arguments, and the package variables that the reading takes, are together of bulk at most 1048576: NARROWER than '..Said'. Prove '..Said' where nothing that the law and all that it calls make is longer than what came in: it says more and counts as full. Else prove '..UptoSaid'. A law counts once. -/
mutual
def uptoBulk {H : Type} : DataW H → Nat
  | .lit (.string bytes) => bytes.length + 1
  | .lit _ => 1
  | .nil => 1
  | .ptr d => uptoBulk d + 1
  | .slice elems spare => uptoBulkAll elems + uptoBulkAll spare + 1
  | .agg parts => uptoBulkAll parts + 1
  | .iface _ d => uptoBulk d + 1
  | .map entries => uptoBulkEntries entries + 1
  | .held _ => 1
def uptoBulkAll {H : Type} : List (DataW H) → Nat
  | [] => 0
  | d :: r => uptoBulk d + uptoBulkAll r
def uptoBulkEntries {H : Type} : List (Lit × DataW H) → Nat
  | [] => 0
  | x :: r => uptoBulkEntry x + uptoBulkEntries r
def uptoBulkEntry {H : Type} : Lit × DataW H → Nat
  | (.string bytes, d) => bytes.length + uptoBulk d + 1
  | (_, d) => uptoBulk d + 1
 end
def uptoSmall : (H : Type) → List (DataW H) → Bool := fun _ ds => decide (uptoBulkAll ds ≤ 1048576)
def OpenSpec.upto (s : _root_.Go.ChangeSpec) : _root_.Go.OpenSpec := { _root_.Go.OpenSpec.ofChange s with cond := some uptoSmall }

/-- 'syllogistlaw.RightsCloses', WHERE WHAT IT READS IS OF BULK AT MOST 1048576: true; the input reads as it did. -/
def rightsClosesUptoRow : OpenClaim := { program := "ytehfjfaanhdbaaa", sum := "07a5a8916cbddbbda6feaf5f4b6a3c0af89f8fb741978a5cbd052263871bf278", func := "syllogist/syllogistlaw.RightsCloses", spec := "rightsCloses", unfollowed := true, recurses := true, plainKeys := false, apart := false, narrowed := true }
def RightsClosesUptoSaid : Prop := rightsClosesUptoRow.holds Try.pinned (OpenSpec.upto rightsClosesSpec)

/-- 'syllogistlaw.RightsSteps', WHERE WHAT IT READS IS OF BULK AT MOST 1048576: true; the input reads as it did. -/
def rightsStepsUptoRow : OpenClaim := { program := "ytehfjfaanhdbaaa", sum := "07a5a8916cbddbbda6feaf5f4b6a3c0af89f8fb741978a5cbd052263871bf278", func := "syllogist/syllogistlaw.RightsSteps", spec := "rightsSteps", unfollowed := true, recurses := true, plainKeys := false, apart := false, narrowed := true }
def RightsStepsUptoSaid : Prop := rightsStepsUptoRow.holds Try.pinned (OpenSpec.upto rightsStepsSpec)

/-- 'syllogistlaw.RightsSafes', WHERE WHAT IT READS IS OF BULK AT MOST 1048576: true; the input reads as it did. -/
def rightsSafesUptoRow : OpenClaim := { program := "ytehfjfaanhdbaaa", sum := "07a5a8916cbddbbda6feaf5f4b6a3c0af89f8fb741978a5cbd052263871bf278", func := "syllogist/syllogistlaw.RightsSafes", spec := "rightsSafes", unfollowed := true, recurses := true, plainKeys := false, apart := false, narrowed := true }
def RightsSafesUptoSaid : Prop := rightsSafesUptoRow.holds Try.pinned (OpenSpec.upto rightsSafesSpec)

/-- 'syllogistlaw.GrantPlays', WHERE WHAT IT READS IS OF BULK AT MOST 1048576: true; the input reads as it did. -/
def grantPlaysUptoRow : OpenClaim := { program := "ytehfjfaanhdbaaa", sum := "07a5a8916cbddbbda6feaf5f4b6a3c0af89f8fb741978a5cbd052263871bf278", func := "syllogist/syllogistlaw.GrantPlays", spec := "grantPlays", unfollowed := true, recurses := true, plainKeys := false, apart := false, narrowed := true }
def GrantPlaysUptoSaid : Prop := grantPlaysUptoRow.holds Try.pinned (OpenSpec.upto grantPlaysSpec)

/-- 'syllogistlaw.GrantCans', WHERE WHAT IT READS IS OF BULK AT MOST 1048576: true; the input reads as it did. -/
def grantCansUptoRow : OpenClaim := { program := "ytehfjfaanhdbaaa", sum := "07a5a8916cbddbbda6feaf5f4b6a3c0af89f8fb741978a5cbd052263871bf278", func := "syllogist/syllogistlaw.GrantCans", spec := "grantCans", plainKeys := false, apart := false, narrowed := true }
def GrantCansUptoSaid : Prop := grantCansUptoRow.holds Try.pinned (OpenSpec.upto grantCansSpec)

/-- 'syllogistlaw.GrantWays', WHERE WHAT IT READS IS OF BULK AT MOST 1048576: true; the input reads as it did. -/
def grantWaysUptoRow : OpenClaim := { program := "ytehfjfaanhdbaaa", sum := "07a5a8916cbddbbda6feaf5f4b6a3c0af89f8fb741978a5cbd052263871bf278", func := "syllogist/syllogistlaw.GrantWays", spec := "grantWays", unfollowed := true, recurses := true, plainKeys := false, apart := false, narrowed := true }
def GrantWaysUptoSaid : Prop := grantWaysUptoRow.holds Try.pinned (OpenSpec.upto grantWaysSpec)

/-- 'syllogistlaw.ViewChecks', WHERE WHAT IT READS IS OF BULK AT MOST 1048576: true; the input reads as it did. -/
def viewChecksUptoRow : OpenClaim := { program := "ytehfjfaanhdbaaa", sum := "07a5a8916cbddbbda6feaf5f4b6a3c0af89f8fb741978a5cbd052263871bf278", func := "syllogist/syllogistlaw.ViewChecks", spec := "viewChecks", unfollowed := true, recurses := true, plainKeys := false, apart := false, narrowed := true }
def ViewChecksUptoSaid : Prop := viewChecksUptoRow.holds Try.pinned (OpenSpec.upto viewChecksSpec)

/-- 'syllogistlaw.ViewRuns', WHERE WHAT IT READS IS OF BULK AT MOST 1048576: true; the input reads as it did. -/
def viewRunsUptoRow : OpenClaim := { program := "ytehfjfaanhdbaaa", sum := "07a5a8916cbddbbda6feaf5f4b6a3c0af89f8fb741978a5cbd052263871bf278", func := "syllogist/syllogistlaw.ViewRuns", spec := "viewRuns", unfollowed := true, recurses := true, plainKeys := false, apart := false, narrowed := true }
def ViewRunsUptoSaid : Prop := viewRunsUptoRow.holds Try.pinned (OpenSpec.upto viewRunsSpec)

/-- 'syllogistlaw.ViewLeaks', WHERE WHAT IT READS IS OF BULK AT MOST 1048576: true; the input reads as it did. -/
def viewLeaksUptoRow : OpenClaim := { program := "ytehfjfaanhdbaaa", sum := "07a5a8916cbddbbda6feaf5f4b6a3c0af89f8fb741978a5cbd052263871bf278", func := "syllogist/syllogistlaw.ViewLeaks", spec := "viewLeaks", unfollowed := true, recurses := true, plainKeys := false, apart := false, narrowed := true }
def ViewLeaksUptoSaid : Prop := viewLeaksUptoRow.holds Try.pinned (OpenSpec.upto viewLeaksSpec)

/-- 'syllogistlaw.ViewParts', WHERE WHAT IT READS IS OF BULK AT MOST 1048576: true; the input reads as it did. -/
def viewPartsUptoRow : OpenClaim := { program := "ytehfjfaanhdbaaa", sum := "07a5a8916cbddbbda6feaf5f4b6a3c0af89f8fb741978a5cbd052263871bf278", func := "syllogist/syllogistlaw.ViewParts", spec := "viewParts", unfollowed := true, recurses := true, plainKeys := false, apart := false, narrowed := true }
def ViewPartsUptoSaid : Prop := viewPartsUptoRow.holds Try.pinned (OpenSpec.upto viewPartsSpec)

end Rows
end Go.Proofs.Ytehfjfaanhdbaaa
