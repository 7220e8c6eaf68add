/-
  No cell of these rows narrows 'for every input' (looked for: loops, veiled, ifaces, maps, wideKeys, modest, calm, conditions, laid).
  DERIVED. THE GIVEN ROWS OF THIS SEAT. 12 by the template 'for every input the law returns true; each argument reads behind the call as it read before'; 0 by the template 'total and deterministic' (their statements: YtoninfimcobeiaaTotals.lean).
  GIVEN WITH THE SEED: the statements are not yours to turn. If you find one false, say at which input.
  Laid BY PROGRAM, IN A SANDBOX (cutbox-rows.mjs): the forced cells as the released guide's own fill.sh prints them over the translation 909e25d7e57319f0… (all of the seat's roots in one cut). By AI agents, Wed Nov 11 2026. No macro, syntax, notation, axiom, sorry.
-/
import Derived.Test.YtoninfimcobeiaaChecked
import GoSem.Claim
import GoSem.ClaimJoined
import GoSem.ClaimMapViews
import Derived.JoinedTies
import Derived.KernelRfl
namespace Go.Proofs.Ytoninfimcobeiaa
/- THE CELL 'sum', in the pinned program and in every row, IS THE sha256 OF THE DUMP (.gsa) THAT YtoninfimcobeiaaProg.lean LOADS. Nothing in Lean hashes anything: it is a label: what it is worth is what the hold of that sum in a sandbox is worth. -/
noncomputable def Try.pinned : Pinned := { name := "ytoninfimcobeiaa", sum := "909e25d7e57319f09331da83e1c59d4f4428953cf083c7eac16ae2997bb2c188", checked := Try.checked }
namespace Rows
def none {H : Type} : Left H := { results := [], args := [] }

/-- 'syllogistlaw.KnowHears': WHATEVER THE INPUT: true; the input reads as it did. -/
def knowHearsSpec : ChangeSpec := { name := "knowHears", fn := fun _ => fun
  | [d1, d2, d3] => { results := [.lit (.bool true)], args := [d1, d2, d3] }
  | _ => none }
def knowHearsRow : OpenClaim := { program := "ytoninfimcobeiaa", sum := "909e25d7e57319f09331da83e1c59d4f4428953cf083c7eac16ae2997bb2c188", func := "syllogist/syllogistlaw.KnowHears", spec := "knowHears", unfollowed := true, recurses := true, apart := false }
def KnowHearsSaid : Prop := knowHearsRow.holds Try.pinned (OpenSpec.ofChange knowHearsSpec)

/-- ITS FALSE NEIGHBOUR: 'it returns false'. Refute it at one input. -/
def knowHearsWrong : ChangeSpec := { name := "knowHears", fn := fun _ => fun
  | [d1, d2, d3] => { results := [.lit (.bool false)], args := [d1, d2, d3] }
  | _ => none }
def KnowHearsWrongFalsely : Prop := knowHearsRow.holds Try.pinned (OpenSpec.ofChange knowHearsWrong)

/-- 'syllogistlaw.KnowMeets': WHATEVER THE INPUT: true; the input reads as it did. -/
def knowMeetsSpec : ChangeSpec := { name := "knowMeets", fn := fun _ => fun
  | [d1, d2] => { results := [.lit (.bool true)], args := [d1, d2] }
  | _ => none }
def knowMeetsRow : OpenClaim := { program := "ytoninfimcobeiaa", sum := "909e25d7e57319f09331da83e1c59d4f4428953cf083c7eac16ae2997bb2c188", func := "syllogist/syllogistlaw.KnowMeets", spec := "knowMeets", unfollowed := true, recurses := true, apart := false }
def KnowMeetsSaid : Prop := knowMeetsRow.holds Try.pinned (OpenSpec.ofChange knowMeetsSpec)

/-- ITS FALSE NEIGHBOUR: 'it returns false'. Refute it at one input. -/
def knowMeetsWrong : ChangeSpec := { name := "knowMeets", fn := fun _ => fun
  | [d1, d2] => { results := [.lit (.bool false)], args := [d1, d2] }
  | _ => none }
def KnowMeetsWrongFalsely : Prop := knowMeetsRow.holds Try.pinned (OpenSpec.ofChange knowMeetsWrong)

/-- 'syllogistlaw.KnowTells': WHATEVER THE INPUT: true; the input reads as it did. -/
def knowTellsSpec : ChangeSpec := { name := "knowTells", fn := fun _ => fun
  | [d1, d2, d3, d4] => { results := [.lit (.bool true)], args := [d1, d2, d3, d4] }
  | _ => none }
def knowTellsRow : OpenClaim := { program := "ytoninfimcobeiaa", sum := "909e25d7e57319f09331da83e1c59d4f4428953cf083c7eac16ae2997bb2c188", func := "syllogist/syllogistlaw.KnowTells", spec := "knowTells", unfollowed := true, recurses := true, apart := false }
def KnowTellsSaid : Prop := knowTellsRow.holds Try.pinned (OpenSpec.ofChange knowTellsSpec)

/-- ITS FALSE NEIGHBOUR: 'it returns false'. Refute it at one input. -/
def knowTellsWrong : ChangeSpec := { name := "knowTells", fn := fun _ => fun
  | [d1, d2, d3, d4] => { results := [.lit (.bool false)], args := [d1, d2, d3, d4] }
  | _ => none }
def KnowTellsWrongFalsely : Prop := knowTellsRow.holds Try.pinned (OpenSpec.ofChange knowTellsWrong)

/-- 'syllogistlaw.KnowEach': WHATEVER THE INPUT: true; the input reads as it did. -/
def knowEachSpec : ChangeSpec := { name := "knowEach", fn := fun _ => fun
  | [d1, d2, d3] => { results := [.lit (.bool true)], args := [d1, d2, d3] }
  | _ => none }
def knowEachRow : OpenClaim := { program := "ytoninfimcobeiaa", sum := "909e25d7e57319f09331da83e1c59d4f4428953cf083c7eac16ae2997bb2c188", func := "syllogist/syllogistlaw.KnowEach", spec := "knowEach", unfollowed := true, recurses := true, apart := false }
def KnowEachSaid : Prop := knowEachRow.holds Try.pinned (OpenSpec.ofChange knowEachSpec)

/-- ITS FALSE NEIGHBOUR: 'it returns false'. Refute it at one input. -/
def knowEachWrong : ChangeSpec := { name := "knowEach", fn := fun _ => fun
  | [d1, d2, d3] => { results := [.lit (.bool false)], args := [d1, d2, d3] }
  | _ => none }
def KnowEachWrongFalsely : Prop := knowEachRow.holds Try.pinned (OpenSpec.ofChange knowEachWrong)

/-- 'syllogistlaw.KnowCommons': WHATEVER THE INPUT: true; the input reads as it did. -/
def knowCommonsSpec : ChangeSpec := { name := "knowCommons", fn := fun _ => fun
  | [d1, d2, d3] => { results := [.lit (.bool true)], args := [d1, d2, d3] }
  | _ => none }
def knowCommonsRow : OpenClaim := { program := "ytoninfimcobeiaa", sum := "909e25d7e57319f09331da83e1c59d4f4428953cf083c7eac16ae2997bb2c188", func := "syllogist/syllogistlaw.KnowCommons", spec := "knowCommons", unfollowed := true, recurses := true, apart := false }
def KnowCommonsSaid : Prop := knowCommonsRow.holds Try.pinned (OpenSpec.ofChange knowCommonsSpec)

/-- ITS FALSE NEIGHBOUR: 'it returns false'. Refute it at one input. -/
def knowCommonsWrong : ChangeSpec := { name := "knowCommons", fn := fun _ => fun
  | [d1, d2, d3] => { results := [.lit (.bool false)], args := [d1, d2, d3] }
  | _ => none }
def KnowCommonsWrongFalsely : Prop := knowCommonsRow.holds Try.pinned (OpenSpec.ofChange knowCommonsWrong)

/-- 'syllogistlaw.SumsLeft': WHATEVER THE INPUT: true; the input reads as it did. -/
def sumsLeftSpec : ChangeSpec := { name := "sumsLeft", fn := fun _ => fun
  | [d1, d2] => { results := [.lit (.bool true)], args := [d1, d2] }
  | _ => none }
def sumsLeftRow : OpenClaim := { program := "ytoninfimcobeiaa", sum := "909e25d7e57319f09331da83e1c59d4f4428953cf083c7eac16ae2997bb2c188", func := "syllogist/syllogistlaw.SumsLeft", spec := "sumsLeft", unfollowed := true, recurses := true, apart := false }
def SumsLeftSaid : Prop := sumsLeftRow.holds Try.pinned (OpenSpec.ofChange sumsLeftSpec)

/-- ITS FALSE NEIGHBOUR: 'it returns false'. Refute it at one input. -/
def sumsLeftWrong : ChangeSpec := { name := "sumsLeft", fn := fun _ => fun
  | [d1, d2] => { results := [.lit (.bool false)], args := [d1, d2] }
  | _ => none }
def SumsLeftWrongFalsely : Prop := sumsLeftRow.holds Try.pinned (OpenSpec.ofChange sumsLeftWrong)

/-- 'syllogistlaw.SumsTold': WHATEVER THE INPUT: true; the input reads as it did. -/
def sumsToldSpec : ChangeSpec := { name := "sumsTold", fn := fun _ => fun
  | [d1, d2] => { results := [.lit (.bool true)], args := [d1, d2] }
  | _ => none }
def sumsToldRow : OpenClaim := { program := "ytoninfimcobeiaa", sum := "909e25d7e57319f09331da83e1c59d4f4428953cf083c7eac16ae2997bb2c188", func := "syllogist/syllogistlaw.SumsTold", spec := "sumsTold", unfollowed := true, recurses := true, apart := false }
def SumsToldSaid : Prop := sumsToldRow.holds Try.pinned (OpenSpec.ofChange sumsToldSpec)

/-- ITS FALSE NEIGHBOUR: 'it returns false'. Refute it at one input. -/
def sumsToldWrong : ChangeSpec := { name := "sumsTold", fn := fun _ => fun
  | [d1, d2] => { results := [.lit (.bool false)], args := [d1, d2] }
  | _ => none }
def SumsToldWrongFalsely : Prop := sumsToldRow.holds Try.pinned (OpenSpec.ofChange sumsToldWrong)

/-- 'syllogistlaw.SumsGuards': WHATEVER THE INPUT: true; the input reads as it did. -/
def sumsGuardsSpec : ChangeSpec := { name := "sumsGuards", fn := fun _ => fun
  | [d1, d2] => { results := [.lit (.bool true)], args := [d1, d2] }
  | _ => none }
def sumsGuardsRow : OpenClaim := { program := "ytoninfimcobeiaa", sum := "909e25d7e57319f09331da83e1c59d4f4428953cf083c7eac16ae2997bb2c188", func := "syllogist/syllogistlaw.SumsGuards", spec := "sumsGuards", unfollowed := true, recurses := true, apart := false }
def SumsGuardsSaid : Prop := sumsGuardsRow.holds Try.pinned (OpenSpec.ofChange sumsGuardsSpec)

/-- ITS FALSE NEIGHBOUR: 'it returns false'. Refute it at one input. -/
def sumsGuardsWrong : ChangeSpec := { name := "sumsGuards", fn := fun _ => fun
  | [d1, d2] => { results := [.lit (.bool false)], args := [d1, d2] }
  | _ => none }
def SumsGuardsWrongFalsely : Prop := sumsGuardsRow.holds Try.pinned (OpenSpec.ofChange sumsGuardsWrong)

/-- 'syllogistlaw.SumsFollows': WHATEVER THE INPUT: true; the input reads as it did. -/
def sumsFollowsSpec : ChangeSpec := { name := "sumsFollows", fn := fun _ => fun
  | [d1, d2, d3] => { results := [.lit (.bool true)], args := [d1, d2, d3] }
  | _ => none }
def sumsFollowsRow : OpenClaim := { program := "ytoninfimcobeiaa", sum := "909e25d7e57319f09331da83e1c59d4f4428953cf083c7eac16ae2997bb2c188", func := "syllogist/syllogistlaw.SumsFollows", spec := "sumsFollows", unfollowed := true, recurses := true, apart := false }
def SumsFollowsSaid : Prop := sumsFollowsRow.holds Try.pinned (OpenSpec.ofChange sumsFollowsSpec)

/-- ITS FALSE NEIGHBOUR: 'it returns false'. Refute it at one input. -/
def sumsFollowsWrong : ChangeSpec := { name := "sumsFollows", fn := fun _ => fun
  | [d1, d2, d3] => { results := [.lit (.bool false)], args := [d1, d2, d3] }
  | _ => none }
def SumsFollowsWrongFalsely : Prop := sumsFollowsRow.holds Try.pinned (OpenSpec.ofChange sumsFollowsWrong)

/-- 'syllogistlaw.VeilPicks': WHATEVER THE INPUT: true; the input reads as it did. -/
def veilPicksSpec : ChangeSpec := { name := "veilPicks", fn := fun _ => fun
  | [d1, d2, d3] => { results := [.lit (.bool true)], args := [d1, d2, d3] }
  | _ => none }
def veilPicksRow : OpenClaim := { program := "ytoninfimcobeiaa", sum := "909e25d7e57319f09331da83e1c59d4f4428953cf083c7eac16ae2997bb2c188", func := "syllogist/syllogistlaw.VeilPicks", spec := "veilPicks", unfollowed := true, recurses := true, apart := false }
def VeilPicksSaid : Prop := veilPicksRow.holds Try.pinned (OpenSpec.ofChange veilPicksSpec)

/-- ITS FALSE NEIGHBOUR: 'it returns false'. Refute it at one input. -/
def veilPicksWrong : ChangeSpec := { name := "veilPicks", fn := fun _ => fun
  | [d1, d2, d3] => { results := [.lit (.bool false)], args := [d1, d2, d3] }
  | _ => none }
def VeilPicksWrongFalsely : Prop := veilPicksRow.holds Try.pinned (OpenSpec.ofChange veilPicksWrong)

/-- 'syllogistlaw.VeilCrowds': WHATEVER THE INPUT: true; the input reads as it did. -/
def veilCrowdsSpec : ChangeSpec := { name := "veilCrowds", fn := fun _ => fun
  | [d1, d2] => { results := [.lit (.bool true)], args := [d1, d2] }
  | _ => none }
def veilCrowdsRow : OpenClaim := { program := "ytoninfimcobeiaa", sum := "909e25d7e57319f09331da83e1c59d4f4428953cf083c7eac16ae2997bb2c188", func := "syllogist/syllogistlaw.VeilCrowds", spec := "veilCrowds", unfollowed := true, recurses := true, apart := false }
def VeilCrowdsSaid : Prop := veilCrowdsRow.holds Try.pinned (OpenSpec.ofChange veilCrowdsSpec)

/-- ITS FALSE NEIGHBOUR: 'it returns false'. Refute it at one input. -/
def veilCrowdsWrong : ChangeSpec := { name := "veilCrowds", fn := fun _ => fun
  | [d1, d2] => { results := [.lit (.bool false)], args := [d1, d2] }
  | _ => none }
def VeilCrowdsWrongFalsely : Prop := veilCrowdsRow.holds Try.pinned (OpenSpec.ofChange veilCrowdsWrong)

/-- 'syllogistlaw.VeilLeasts': WHATEVER THE INPUT: true; the input reads as it did. -/
def veilLeastsSpec : ChangeSpec := { name := "veilLeasts", fn := fun _ => fun
  | [d1, d2] => { results := [.lit (.bool true)], args := [d1, d2] }
  | _ => none }
def veilLeastsRow : OpenClaim := { program := "ytoninfimcobeiaa", sum := "909e25d7e57319f09331da83e1c59d4f4428953cf083c7eac16ae2997bb2c188", func := "syllogist/syllogistlaw.VeilLeasts", spec := "veilLeasts", unfollowed := true, recurses := true, apart := false }
def VeilLeastsSaid : Prop := veilLeastsRow.holds Try.pinned (OpenSpec.ofChange veilLeastsSpec)

/-- ITS FALSE NEIGHBOUR: 'it returns false'. Refute it at one input. -/
def veilLeastsWrong : ChangeSpec := { name := "veilLeasts", fn := fun _ => fun
  | [d1, d2] => { results := [.lit (.bool false)], args := [d1, d2] }
  | _ => none }
def VeilLeastsWrongFalsely : Prop := veilLeastsRow.holds Try.pinned (OpenSpec.ofChange veilLeastsWrong)

/- THE SECOND FORM. 'bulk': how many values and letters a reading holds, each counted each time it is reached (what is shared counts as often as it is met; a slice's spare places count too). A statement '..UptoSaid' is the law's where the arguments, and the package variables that the reading takes, are together of bulk at most 1048576: NARROWER than '..Said'. Prove '..Said' where nothing that the law and all that it calls make is longer than what came in: it says more and counts as full. Else prove '..UptoSaid'. A law counts once. -/
mutual
def uptoBulk {H : Type} : DataW H → Nat
  | .lit (.string bytes) => bytes.length + 1
  | .lit _ => 1
  | .nil => 1
  | .ptr d => uptoBulk d + 1
  | .slice elems spare => uptoBulkAll elems + uptoBulkAll spare + 1
  | .agg parts => uptoBulkAll parts + 1
  | .iface _ d => uptoBulk d + 1
  | .map entries => uptoBulkEntries entries + 1
  | .held _ => 1
def uptoBulkAll {H : Type} : List (DataW H) → Nat
  | [] => 0
  | d :: r => uptoBulk d + uptoBulkAll r
def uptoBulkEntries {H : Type} : List (Lit × DataW H) → Nat
  | [] => 0
  | x :: r => uptoBulkEntry x + uptoBulkEntries r
def uptoBulkEntry {H : Type} : Lit × DataW H → Nat
  | (.string bytes, d) => bytes.length + uptoBulk d + 1
  | (_, d) => uptoBulk d + 1
 end
def uptoSmall : (H : Type) → List (DataW H) → Bool := fun _ ds => decide (uptoBulkAll ds ≤ 1048576)
def OpenSpec.upto (s : _root_.Go.ChangeSpec) : _root_.Go.OpenSpec := { _root_.Go.OpenSpec.ofChange s with cond := some uptoSmall }

/-- 'syllogistlaw.KnowHears', WHERE WHAT IT READS IS OF BULK AT MOST 1048576: true; the input reads as it did. -/
def knowHearsUptoRow : OpenClaim := { program := "ytoninfimcobeiaa", sum := "909e25d7e57319f09331da83e1c59d4f4428953cf083c7eac16ae2997bb2c188", func := "syllogist/syllogistlaw.KnowHears", spec := "knowHears", unfollowed := true, recurses := true, apart := false, narrowed := true }
def KnowHearsUptoSaid : Prop := knowHearsUptoRow.holds Try.pinned (OpenSpec.upto knowHearsSpec)

/-- 'syllogistlaw.KnowMeets', WHERE WHAT IT READS IS OF BULK AT MOST 1048576: true; the input reads as it did. -/
def knowMeetsUptoRow : OpenClaim := { program := "ytoninfimcobeiaa", sum := "909e25d7e57319f09331da83e1c59d4f4428953cf083c7eac16ae2997bb2c188", func := "syllogist/syllogistlaw.KnowMeets", spec := "knowMeets", unfollowed := true, recurses := true, apart := false, narrowed := true }
def KnowMeetsUptoSaid : Prop := knowMeetsUptoRow.holds Try.pinned (OpenSpec.upto knowMeetsSpec)

/-- 'syllogistlaw.KnowTells', WHERE WHAT IT READS IS OF BULK AT MOST 1048576: true; the input reads as it did. -/
def knowTellsUptoRow : OpenClaim := { program := "ytoninfimcobeiaa", sum := "909e25d7e57319f09331da83e1c59d4f4428953cf083c7eac16ae2997bb2c188", func := "syllogist/syllogistlaw.KnowTells", spec := "knowTells", unfollowed := true, recurses := true, apart := false, narrowed := true }
def KnowTellsUptoSaid : Prop := knowTellsUptoRow.holds Try.pinned (OpenSpec.upto knowTellsSpec)

/-- 'syllogistlaw.KnowEach', WHERE WHAT IT READS IS OF BULK AT MOST 1048576: true; the input reads as it did. -/
def knowEachUptoRow : OpenClaim := { program := "ytoninfimcobeiaa", sum := "909e25d7e57319f09331da83e1c59d4f4428953cf083c7eac16ae2997bb2c188", func := "syllogist/syllogistlaw.KnowEach", spec := "knowEach", unfollowed := true, recurses := true, apart := false, narrowed := true }
def KnowEachUptoSaid : Prop := knowEachUptoRow.holds Try.pinned (OpenSpec.upto knowEachSpec)

/-- 'syllogistlaw.KnowCommons', WHERE WHAT IT READS IS OF BULK AT MOST 1048576: true; the input reads as it did. -/
def knowCommonsUptoRow : OpenClaim := { program := "ytoninfimcobeiaa", sum := "909e25d7e57319f09331da83e1c59d4f4428953cf083c7eac16ae2997bb2c188", func := "syllogist/syllogistlaw.KnowCommons", spec := "knowCommons", unfollowed := true, recurses := true, apart := false, narrowed := true }
def KnowCommonsUptoSaid : Prop := knowCommonsUptoRow.holds Try.pinned (OpenSpec.upto knowCommonsSpec)

/-- 'syllogistlaw.SumsLeft', WHERE WHAT IT READS IS OF BULK AT MOST 1048576: true; the input reads as it did. -/
def sumsLeftUptoRow : OpenClaim := { program := "ytoninfimcobeiaa", sum := "909e25d7e57319f09331da83e1c59d4f4428953cf083c7eac16ae2997bb2c188", func := "syllogist/syllogistlaw.SumsLeft", spec := "sumsLeft", unfollowed := true, recurses := true, apart := false, narrowed := true }
def SumsLeftUptoSaid : Prop := sumsLeftUptoRow.holds Try.pinned (OpenSpec.upto sumsLeftSpec)

/-- 'syllogistlaw.SumsTold', WHERE WHAT IT READS IS OF BULK AT MOST 1048576: true; the input reads as it did. -/
def sumsToldUptoRow : OpenClaim := { program := "ytoninfimcobeiaa", sum := "909e25d7e57319f09331da83e1c59d4f4428953cf083c7eac16ae2997bb2c188", func := "syllogist/syllogistlaw.SumsTold", spec := "sumsTold", unfollowed := true, recurses := true, apart := false, narrowed := true }
def SumsToldUptoSaid : Prop := sumsToldUptoRow.holds Try.pinned (OpenSpec.upto sumsToldSpec)

/-- 'syllogistlaw.SumsGuards', WHERE WHAT IT READS IS OF BULK AT MOST 1048576: true; the input reads as it did. -/
def sumsGuardsUptoRow : OpenClaim := { program := "ytoninfimcobeiaa", sum := "909e25d7e57319f09331da83e1c59d4f4428953cf083c7eac16ae2997bb2c188", func := "syllogist/syllogistlaw.SumsGuards", spec := "sumsGuards", unfollowed := true, recurses := true, apart := false, narrowed := true }
def SumsGuardsUptoSaid : Prop := sumsGuardsUptoRow.holds Try.pinned (OpenSpec.upto sumsGuardsSpec)

/-- 'syllogistlaw.SumsFollows', WHERE WHAT IT READS IS OF BULK AT MOST 1048576: true; the input reads as it did. -/
def sumsFollowsUptoRow : OpenClaim := { program := "ytoninfimcobeiaa", sum := "909e25d7e57319f09331da83e1c59d4f4428953cf083c7eac16ae2997bb2c188", func := "syllogist/syllogistlaw.SumsFollows", spec := "sumsFollows", unfollowed := true, recurses := true, apart := false, narrowed := true }
def SumsFollowsUptoSaid : Prop := sumsFollowsUptoRow.holds Try.pinned (OpenSpec.upto sumsFollowsSpec)

/-- 'syllogistlaw.VeilPicks', WHERE WHAT IT READS IS OF BULK AT MOST 1048576: true; the input reads as it did. -/
def veilPicksUptoRow : OpenClaim := { program := "ytoninfimcobeiaa", sum := "909e25d7e57319f09331da83e1c59d4f4428953cf083c7eac16ae2997bb2c188", func := "syllogist/syllogistlaw.VeilPicks", spec := "veilPicks", unfollowed := true, recurses := true, apart := false, narrowed := true }
def VeilPicksUptoSaid : Prop := veilPicksUptoRow.holds Try.pinned (OpenSpec.upto veilPicksSpec)

/-- 'syllogistlaw.VeilCrowds', WHERE WHAT IT READS IS OF BULK AT MOST 1048576: true; the input reads as it did. -/
def veilCrowdsUptoRow : OpenClaim := { program := "ytoninfimcobeiaa", sum := "909e25d7e57319f09331da83e1c59d4f4428953cf083c7eac16ae2997bb2c188", func := "syllogist/syllogistlaw.VeilCrowds", spec := "veilCrowds", unfollowed := true, recurses := true, apart := false, narrowed := true }
def VeilCrowdsUptoSaid : Prop := veilCrowdsUptoRow.holds Try.pinned (OpenSpec.upto veilCrowdsSpec)

/-- 'syllogistlaw.VeilLeasts', WHERE WHAT IT READS IS OF BULK AT MOST 1048576: true; the input reads as it did. -/
def veilLeastsUptoRow : OpenClaim := { program := "ytoninfimcobeiaa", sum := "909e25d7e57319f09331da83e1c59d4f4428953cf083c7eac16ae2997bb2c188", func := "syllogist/syllogistlaw.VeilLeasts", spec := "veilLeasts", unfollowed := true, recurses := true, apart := false, narrowed := true }
def VeilLeastsUptoSaid : Prop := veilLeastsUptoRow.holds Try.pinned (OpenSpec.upto veilLeastsSpec)

end Rows
end Go.Proofs.Ytoninfimcobeiaa
