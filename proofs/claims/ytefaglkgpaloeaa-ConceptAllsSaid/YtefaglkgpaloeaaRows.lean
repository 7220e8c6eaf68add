/-
  No cell of these rows narrows 'for every input' (looked for: loops, veiled, ifaces, maps, wideKeys, modest, calm, conditions, laid).
  DERIVED. THE GIVEN ROWS OF THIS SEAT. 5 by the template 'for every input the law returns true; each argument reads behind the call as it read before'; 0 by the template 'total and deterministic' (their statements: YtefaglkgpaloeaaTotals.lean).
  GIVEN WITH THE SEED: the statements are not yours to turn. If you find one false, say at which input.
  Laid BY PROGRAM, IN A SANDBOX (cutbox-rows.mjs): the forced cells as the released guide's own fill.sh prints them over the translation b03c370788b33c2b… (all of the seat's roots in one cut). By AI agents, Wed Nov 11 2026. No macro, syntax, notation, axiom, sorry.
-/
import Derived.Test.YtefaglkgpaloeaaChecked
import GoSem.Claim
import GoSem.ClaimJoined
import GoSem.ClaimMapViews
import Derived.JoinedTies
import Derived.KernelRfl
namespace Go.Proofs.Ytefaglkgpaloeaa
/- THE CELL 'sum', in the pinned program and in every row, IS THE sha256 OF THE DUMP (.gsa) THAT YtefaglkgpaloeaaProg.lean LOADS. Nothing in Lean hashes anything: it is a label: what it is worth is what the hold of that sum in a sandbox is worth. -/
noncomputable def Try.pinned : Pinned := { name := "ytefaglkgpaloeaa", sum := "b03c370788b33c2bc7766ac6e37e32158f90251547434a9a10f22685e2e0dcdd", checked := Try.checked }
namespace Rows
def none {H : Type} : Left H := { results := [], args := [] }

/-- 'syllogistlaw.ConceptUps': WHATEVER THE INPUT: true; the input reads as it did. -/
def conceptUpsSpec : ChangeSpec := { name := "conceptUps", fn := fun _ => fun
  | [d1, d2, d3] => { results := [.lit (.bool true)], args := [d1, d2, d3] }
  | _ => none }
def conceptUpsRow : OpenClaim := { program := "ytefaglkgpaloeaa", sum := "b03c370788b33c2bc7766ac6e37e32158f90251547434a9a10f22685e2e0dcdd", func := "syllogist/syllogistlaw.ConceptUps", spec := "conceptUps", apart := false }
def ConceptUpsSaid : Prop := conceptUpsRow.holds Try.pinned (OpenSpec.ofChange conceptUpsSpec)

/-- ITS FALSE NEIGHBOUR: 'it returns false'. Refute it at one input. -/
def conceptUpsWrong : ChangeSpec := { name := "conceptUps", fn := fun _ => fun
  | [d1, d2, d3] => { results := [.lit (.bool false)], args := [d1, d2, d3] }
  | _ => none }
def ConceptUpsWrongFalsely : Prop := conceptUpsRow.holds Try.pinned (OpenSpec.ofChange conceptUpsWrong)

/-- 'syllogistlaw.ConceptDowns': WHATEVER THE INPUT: true; the input reads as it did. -/
def conceptDownsSpec : ChangeSpec := { name := "conceptDowns", fn := fun _ => fun
  | [d1, d2, d3] => { results := [.lit (.bool true)], args := [d1, d2, d3] }
  | _ => none }
def conceptDownsRow : OpenClaim := { program := "ytefaglkgpaloeaa", sum := "b03c370788b33c2bc7766ac6e37e32158f90251547434a9a10f22685e2e0dcdd", func := "syllogist/syllogistlaw.ConceptDowns", spec := "conceptDowns", apart := false }
def ConceptDownsSaid : Prop := conceptDownsRow.holds Try.pinned (OpenSpec.ofChange conceptDownsSpec)

/-- ITS FALSE NEIGHBOUR: 'it returns false'. Refute it at one input. -/
def conceptDownsWrong : ChangeSpec := { name := "conceptDowns", fn := fun _ => fun
  | [d1, d2, d3] => { results := [.lit (.bool false)], args := [d1, d2, d3] }
  | _ => none }
def ConceptDownsWrongFalsely : Prop := conceptDownsRow.holds Try.pinned (OpenSpec.ofChange conceptDownsWrong)

/-- 'syllogistlaw.ConceptSays': WHATEVER THE INPUT: true; the input reads as it did. -/
def conceptSaysSpec : ChangeSpec := { name := "conceptSays", fn := fun _ => fun
  | [d1, d2, d3] => { results := [.lit (.bool true)], args := [d1, d2, d3] }
  | _ => none }
def conceptSaysRow : OpenClaim := { program := "ytefaglkgpaloeaa", sum := "b03c370788b33c2bc7766ac6e37e32158f90251547434a9a10f22685e2e0dcdd", func := "syllogist/syllogistlaw.ConceptSays", spec := "conceptSays", unfollowed := true, recurses := true, apart := false }
def ConceptSaysSaid : Prop := conceptSaysRow.holds Try.pinned (OpenSpec.ofChange conceptSaysSpec)

/-- ITS FALSE NEIGHBOUR: 'it returns false'. Refute it at one input. -/
def conceptSaysWrong : ChangeSpec := { name := "conceptSays", fn := fun _ => fun
  | [d1, d2, d3] => { results := [.lit (.bool false)], args := [d1, d2, d3] }
  | _ => none }
def ConceptSaysWrongFalsely : Prop := conceptSaysRow.holds Try.pinned (OpenSpec.ofChange conceptSaysWrong)

/-- 'syllogistlaw.ConceptNexts': WHATEVER THE INPUT: true; the input reads as it did. -/
def conceptNextsSpec : ChangeSpec := { name := "conceptNexts", fn := fun _ => fun
  | [d1, d2, d3] => { results := [.lit (.bool true)], args := [d1, d2, d3] }
  | _ => none }
def conceptNextsRow : OpenClaim := { program := "ytefaglkgpaloeaa", sum := "b03c370788b33c2bc7766ac6e37e32158f90251547434a9a10f22685e2e0dcdd", func := "syllogist/syllogistlaw.ConceptNexts", spec := "conceptNexts", apart := false }
def ConceptNextsSaid : Prop := conceptNextsRow.holds Try.pinned (OpenSpec.ofChange conceptNextsSpec)

/-- ITS FALSE NEIGHBOUR: 'it returns false'. Refute it at one input. -/
def conceptNextsWrong : ChangeSpec := { name := "conceptNexts", fn := fun _ => fun
  | [d1, d2, d3] => { results := [.lit (.bool false)], args := [d1, d2, d3] }
  | _ => none }
def ConceptNextsWrongFalsely : Prop := conceptNextsRow.holds Try.pinned (OpenSpec.ofChange conceptNextsWrong)

/-- 'syllogistlaw.ConceptAlls': WHATEVER THE INPUT: true; the input reads as it did. -/
def conceptAllsSpec : ChangeSpec := { name := "conceptAlls", fn := fun _ => fun
  | [d1, d2] => { results := [.lit (.bool true)], args := [d1, d2] }
  | _ => none }
def conceptAllsRow : OpenClaim := { program := "ytefaglkgpaloeaa", sum := "b03c370788b33c2bc7766ac6e37e32158f90251547434a9a10f22685e2e0dcdd", func := "syllogist/syllogistlaw.ConceptAlls", spec := "conceptAlls", unfollowed := true, recurses := true, apart := false }
def ConceptAllsSaid : Prop := conceptAllsRow.holds Try.pinned (OpenSpec.ofChange conceptAllsSpec)

/-- ITS FALSE NEIGHBOUR: 'it returns false'. Refute it at one input. -/
def conceptAllsWrong : ChangeSpec := { name := "conceptAlls", fn := fun _ => fun
  | [d1, d2] => { results := [.lit (.bool false)], args := [d1, d2] }
  | _ => none }
def ConceptAllsWrongFalsely : Prop := conceptAllsRow.holds Try.pinned (OpenSpec.ofChange conceptAllsWrong)

/- THE SECOND FORM. 'bulk': how many values and letters a reading holds, each counted each time it is reached (what is shared counts as often as it is met; a slice's spare places count too). A statement '..UptoSaid' is the law's where the arguments, and the package variables that the reading takes, are together of bulk at most 1048576: NARROWER than '..Said'. Prove '..Said' where nothing that the law and all that it calls make is longer than what came in: it says more and counts as full. Else prove '..UptoSaid'. A law counts once. -/
mutual
def uptoBulk {H : Type} : DataW H → Nat
  | .lit (.string bytes) => bytes.length + 1
  | .lit _ => 1
  | .nil => 1
  | .ptr d => uptoBulk d + 1
  | .slice elems spare => uptoBulkAll elems + uptoBulkAll spare + 1
  | .agg parts => uptoBulkAll parts + 1
  | .iface _ d => uptoBulk d + 1
  | .map entries => uptoBulkEntries entries + 1
  | .held _ => 1
def uptoBulkAll {H : Type} : List (DataW H) → Nat
  | [] => 0
  | d :: r => uptoBulk d + uptoBulkAll r
def uptoBulkEntries {H : Type} : List (Lit × DataW H) → Nat
  | [] => 0
  | x :: r => uptoBulkEntry x + uptoBulkEntries r
def uptoBulkEntry {H : Type} : Lit × DataW H → Nat
  | (.string bytes, d) => bytes.length + uptoBulk d + 1
  | (_, d) => uptoBulk d + 1
 end
def uptoSmall : (H : Type) → List (DataW H) → Bool := fun _ ds => decide (uptoBulkAll ds ≤ 1048576)
def OpenSpec.upto (s : _root_.Go.ChangeSpec) : _root_.Go.OpenSpec := { _root_.Go.OpenSpec.ofChange s with cond := some uptoSmall }

/-- 'syllogistlaw.ConceptUps', WHERE WHAT IT READS IS OF BULK AT MOST 1048576: true; the input reads as it did. -/
def conceptUpsUptoRow : OpenClaim := { program := "ytefaglkgpaloeaa", sum := "b03c370788b33c2bc7766ac6e37e32158f90251547434a9a10f22685e2e0dcdd", func := "syllogist/syllogistlaw.ConceptUps", spec := "conceptUps", apart := false, narrowed := true }
def ConceptUpsUptoSaid : Prop := conceptUpsUptoRow.holds Try.pinned (OpenSpec.upto conceptUpsSpec)

/-- 'syllogistlaw.ConceptDowns', WHERE WHAT IT READS IS OF BULK AT MOST 1048576: true; the input reads as it did. -/
def conceptDownsUptoRow : OpenClaim := { program := "ytefaglkgpaloeaa", sum := "b03c370788b33c2bc7766ac6e37e32158f90251547434a9a10f22685e2e0dcdd", func := "syllogist/syllogistlaw.ConceptDowns", spec := "conceptDowns", apart := false, narrowed := true }
def ConceptDownsUptoSaid : Prop := conceptDownsUptoRow.holds Try.pinned (OpenSpec.upto conceptDownsSpec)

/-- 'syllogistlaw.ConceptSays', WHERE WHAT IT READS IS OF BULK AT MOST 1048576: true; the input reads as it did. -/
def conceptSaysUptoRow : OpenClaim := { program := "ytefaglkgpaloeaa", sum := "b03c370788b33c2bc7766ac6e37e32158f90251547434a9a10f22685e2e0dcdd", func := "syllogist/syllogistlaw.ConceptSays", spec := "conceptSays", unfollowed := true, recurses := true, apart := false, narrowed := true }
def ConceptSaysUptoSaid : Prop := conceptSaysUptoRow.holds Try.pinned (OpenSpec.upto conceptSaysSpec)

/-- 'syllogistlaw.ConceptNexts', WHERE WHAT IT READS IS OF BULK AT MOST 1048576: true; the input reads as it did. -/
def conceptNextsUptoRow : OpenClaim := { program := "ytefaglkgpaloeaa", sum := "b03c370788b33c2bc7766ac6e37e32158f90251547434a9a10f22685e2e0dcdd", func := "syllogist/syllogistlaw.ConceptNexts", spec := "conceptNexts", apart := false, narrowed := true }
def ConceptNextsUptoSaid : Prop := conceptNextsUptoRow.holds Try.pinned (OpenSpec.upto conceptNextsSpec)

/-- 'syllogistlaw.ConceptAlls', WHERE WHAT IT READS IS OF BULK AT MOST 1048576: true; the input reads as it did. -/
def conceptAllsUptoRow : OpenClaim := { program := "ytefaglkgpaloeaa", sum := "b03c370788b33c2bc7766ac6e37e32158f90251547434a9a10f22685e2e0dcdd", func := "syllogist/syllogistlaw.ConceptAlls", spec := "conceptAlls", unfollowed := true, recurses := true, apart := false, narrowed := true }
def ConceptAllsUptoSaid : Prop := conceptAllsUptoRow.holds Try.pinned (OpenSpec.upto conceptAllsSpec)

end Rows
end Go.Proofs.Ytefaglkgpaloeaa
