/-
  No cell of these rows narrows 'for every input' (looked for: loops, veiled, ifaces, maps, wideKeys, modest, calm, conditions, laid).
  DERIVED. THE GIVEN ROWS OF THIS SEAT. 6 by the template 'for every input the law returns true; each argument reads behind the call as it read before'; 0 by the template 'total and deterministic' (their statements: YtapmgcblofjpaaaTotals.lean).
  GIVEN WITH THE SEED: the statements are not yours to turn. If you find one false, say at which input.
  Laid BY PROGRAM, IN A SANDBOX (cutbox-rows.mjs): the forced cells as the released guide's own fill.sh prints them over the translation eaa823e0eef6f9a0… (all of the seat's roots in one cut). By AI agents, Wed Nov 11 2026. No macro, syntax, notation, axiom, sorry.
-/
import Derived.Test.YtapmgcblofjpaaaChecked
import GoSem.Claim
import GoSem.ClaimJoined
import GoSem.ClaimMapViews
import Derived.JoinedTies
import Derived.KernelRfl
namespace Go.Proofs.Ytapmgcblofjpaaa
/- THE CELL 'sum', in the pinned program and in every row, IS THE sha256 OF THE DUMP (.gsa) THAT YtapmgcblofjpaaaProg.lean LOADS. Nothing in Lean hashes anything: it is a label: what it is worth is what the hold of that sum in a sandbox is worth. -/
noncomputable def Try.pinned : Pinned := { name := "ytapmgcblofjpaaa", sum := "eaa823e0eef6f9a0b02664ca16ffbace93caf3abd464c8509f6d6da7e40dc11b", checked := Try.checked }
namespace Rows
def none {H : Type} : Left H := { results := [], args := [] }

/-- 'syllogistlaw.LabelChecks': WHATEVER THE INPUT: true; the input reads as it did. -/
def labelChecksSpec : ChangeSpec := { name := "labelChecks", fn := fun _ => fun
  | [d] => { results := [.lit (.bool true)], args := [d] }
  | _ => none }
def labelChecksRow : OpenClaim := { program := "ytapmgcblofjpaaa", sum := "eaa823e0eef6f9a0b02664ca16ffbace93caf3abd464c8509f6d6da7e40dc11b", func := "syllogist/syllogistlaw.LabelChecks", spec := "labelChecks", apart := false }
def LabelChecksSaid : Prop := labelChecksRow.holds Try.pinned (OpenSpec.ofChange labelChecksSpec)

/-- ITS FALSE NEIGHBOUR: 'it returns false'. Refute it at one input. -/
def labelChecksWrong : ChangeSpec := { name := "labelChecks", fn := fun _ => fun
  | [d] => { results := [.lit (.bool false)], args := [d] }
  | _ => none }
def LabelChecksWrongFalsely : Prop := labelChecksRow.holds Try.pinned (OpenSpec.ofChange labelChecksWrong)

/-- 'syllogistlaw.LabelTells': WHATEVER THE INPUT: true; the input reads as it did. -/
def labelTellsSpec : ChangeSpec := { name := "labelTells", fn := fun _ => fun
  | [d] => { results := [.lit (.bool true)], args := [d] }
  | _ => none }
def labelTellsRow : OpenClaim := { program := "ytapmgcblofjpaaa", sum := "eaa823e0eef6f9a0b02664ca16ffbace93caf3abd464c8509f6d6da7e40dc11b", func := "syllogist/syllogistlaw.LabelTells", spec := "labelTells", apart := false }
def LabelTellsSaid : Prop := labelTellsRow.holds Try.pinned (OpenSpec.ofChange labelTellsSpec)

/-- ITS FALSE NEIGHBOUR: 'it returns false'. Refute it at one input. -/
def labelTellsWrong : ChangeSpec := { name := "labelTells", fn := fun _ => fun
  | [d] => { results := [.lit (.bool false)], args := [d] }
  | _ => none }
def LabelTellsWrongFalsely : Prop := labelTellsRow.holds Try.pinned (OpenSpec.ofChange labelTellsWrong)

/-- 'syllogistlaw.LabelNumbers': WHATEVER THE INPUT: true; the input reads as it did. -/
def labelNumbersSpec : ChangeSpec := { name := "labelNumbers", fn := fun _ => fun
  | [d] => { results := [.lit (.bool true)], args := [d] }
  | _ => none }
def labelNumbersRow : OpenClaim := { program := "ytapmgcblofjpaaa", sum := "eaa823e0eef6f9a0b02664ca16ffbace93caf3abd464c8509f6d6da7e40dc11b", func := "syllogist/syllogistlaw.LabelNumbers", spec := "labelNumbers", apart := false }
def LabelNumbersSaid : Prop := labelNumbersRow.holds Try.pinned (OpenSpec.ofChange labelNumbersSpec)

/-- ITS FALSE NEIGHBOUR: 'it returns false'. Refute it at one input. -/
def labelNumbersWrong : ChangeSpec := { name := "labelNumbers", fn := fun _ => fun
  | [d] => { results := [.lit (.bool false)], args := [d] }
  | _ => none }
def LabelNumbersWrongFalsely : Prop := labelNumbersRow.holds Try.pinned (OpenSpec.ofChange labelNumbersWrong)

/-- 'syllogistlaw.LabelMeets': WHATEVER THE INPUT: true; the input reads as it did. -/
def labelMeetsSpec : ChangeSpec := { name := "labelMeets", fn := fun _ => fun
  | [d1, d2] => { results := [.lit (.bool true)], args := [d1, d2] }
  | _ => none }
def labelMeetsRow : OpenClaim := { program := "ytapmgcblofjpaaa", sum := "eaa823e0eef6f9a0b02664ca16ffbace93caf3abd464c8509f6d6da7e40dc11b", func := "syllogist/syllogistlaw.LabelMeets", spec := "labelMeets", apart := false }
def LabelMeetsSaid : Prop := labelMeetsRow.holds Try.pinned (OpenSpec.ofChange labelMeetsSpec)

/-- ITS FALSE NEIGHBOUR: 'it returns false'. Refute it at one input. -/
def labelMeetsWrong : ChangeSpec := { name := "labelMeets", fn := fun _ => fun
  | [d1, d2] => { results := [.lit (.bool false)], args := [d1, d2] }
  | _ => none }
def LabelMeetsWrongFalsely : Prop := labelMeetsRow.holds Try.pinned (OpenSpec.ofChange labelMeetsWrong)

/-- 'syllogistlaw.LabelUnders': WHATEVER THE INPUT: true; the input reads as it did. -/
def labelUndersSpec : ChangeSpec := { name := "labelUnders", fn := fun _ => fun
  | [d1, d2] => { results := [.lit (.bool true)], args := [d1, d2] }
  | _ => none }
def labelUndersRow : OpenClaim := { program := "ytapmgcblofjpaaa", sum := "eaa823e0eef6f9a0b02664ca16ffbace93caf3abd464c8509f6d6da7e40dc11b", func := "syllogist/syllogistlaw.LabelUnders", spec := "labelUnders", apart := false }
def LabelUndersSaid : Prop := labelUndersRow.holds Try.pinned (OpenSpec.ofChange labelUndersSpec)

/-- ITS FALSE NEIGHBOUR: 'it returns false'. Refute it at one input. -/
def labelUndersWrong : ChangeSpec := { name := "labelUnders", fn := fun _ => fun
  | [d1, d2] => { results := [.lit (.bool false)], args := [d1, d2] }
  | _ => none }
def LabelUndersWrongFalsely : Prop := labelUndersRow.holds Try.pinned (OpenSpec.ofChange labelUndersWrong)

/-- 'syllogistlaw.LabelJoins': WHATEVER THE INPUT: true; the input reads as it did. -/
def labelJoinsSpec : ChangeSpec := { name := "labelJoins", fn := fun _ => fun
  | [d1, d2] => { results := [.lit (.bool true)], args := [d1, d2] }
  | _ => none }
def labelJoinsRow : OpenClaim := { program := "ytapmgcblofjpaaa", sum := "eaa823e0eef6f9a0b02664ca16ffbace93caf3abd464c8509f6d6da7e40dc11b", func := "syllogist/syllogistlaw.LabelJoins", spec := "labelJoins", apart := false }
def LabelJoinsSaid : Prop := labelJoinsRow.holds Try.pinned (OpenSpec.ofChange labelJoinsSpec)

/-- ITS FALSE NEIGHBOUR: 'it returns false'. Refute it at one input. -/
def labelJoinsWrong : ChangeSpec := { name := "labelJoins", fn := fun _ => fun
  | [d1, d2] => { results := [.lit (.bool false)], args := [d1, d2] }
  | _ => none }
def LabelJoinsWrongFalsely : Prop := labelJoinsRow.holds Try.pinned (OpenSpec.ofChange labelJoinsWrong)

/- THE SECOND FORM. 'bulk': how many values and letters a reading holds, each counted each time it is reached (what is shared counts as often as it is met; a slice's spare places count too). A statement '..UptoSaid' is the law's where the arguments, and the package variables that the reading takes, are together of bulk at most 1048576: NARROWER than '..Said'. Prove '..Said' where nothing that the law and all that it calls make is longer than what came in: it says more and counts as full. Else prove '..UptoSaid'. A law counts once. -/
mutual
def uptoBulk {H : Type} : DataW H → Nat
  | .lit (.string bytes) => bytes.length + 1
  | .lit _ => 1
  | .nil => 1
  | .ptr d => uptoBulk d + 1
  | .slice elems spare => uptoBulkAll elems + uptoBulkAll spare + 1
  | .agg parts => uptoBulkAll parts + 1
  | .iface _ d => uptoBulk d + 1
  | .map entries => uptoBulkEntries entries + 1
  | .held _ => 1
def uptoBulkAll {H : Type} : List (DataW H) → Nat
  | [] => 0
  | d :: r => uptoBulk d + uptoBulkAll r
def uptoBulkEntries {H : Type} : List (Lit × DataW H) → Nat
  | [] => 0
  | x :: r => uptoBulkEntry x + uptoBulkEntries r
def uptoBulkEntry {H : Type} : Lit × DataW H → Nat
  | (.string bytes, d) => bytes.length + uptoBulk d + 1
  | (_, d) => uptoBulk d + 1
 end
def uptoSmall : (H : Type) → List (DataW H) → Bool := fun _ ds => decide (uptoBulkAll ds ≤ 1048576)
def OpenSpec.upto (s : _root_.Go.ChangeSpec) : _root_.Go.OpenSpec := { _root_.Go.OpenSpec.ofChange s with cond := some uptoSmall }

/-- 'syllogistlaw.LabelChecks', WHERE WHAT IT READS IS OF BULK AT MOST 1048576: true; the input reads as it did. -/
def labelChecksUptoRow : OpenClaim := { program := "ytapmgcblofjpaaa", sum := "eaa823e0eef6f9a0b02664ca16ffbace93caf3abd464c8509f6d6da7e40dc11b", func := "syllogist/syllogistlaw.LabelChecks", spec := "labelChecks", apart := false, narrowed := true }
def LabelChecksUptoSaid : Prop := labelChecksUptoRow.holds Try.pinned (OpenSpec.upto labelChecksSpec)

/-- 'syllogistlaw.LabelTells', WHERE WHAT IT READS IS OF BULK AT MOST 1048576: true; the input reads as it did. -/
def labelTellsUptoRow : OpenClaim := { program := "ytapmgcblofjpaaa", sum := "eaa823e0eef6f9a0b02664ca16ffbace93caf3abd464c8509f6d6da7e40dc11b", func := "syllogist/syllogistlaw.LabelTells", spec := "labelTells", apart := false, narrowed := true }
def LabelTellsUptoSaid : Prop := labelTellsUptoRow.holds Try.pinned (OpenSpec.upto labelTellsSpec)

/-- 'syllogistlaw.LabelNumbers', WHERE WHAT IT READS IS OF BULK AT MOST 1048576: true; the input reads as it did. -/
def labelNumbersUptoRow : OpenClaim := { program := "ytapmgcblofjpaaa", sum := "eaa823e0eef6f9a0b02664ca16ffbace93caf3abd464c8509f6d6da7e40dc11b", func := "syllogist/syllogistlaw.LabelNumbers", spec := "labelNumbers", apart := false, narrowed := true }
def LabelNumbersUptoSaid : Prop := labelNumbersUptoRow.holds Try.pinned (OpenSpec.upto labelNumbersSpec)

/-- 'syllogistlaw.LabelMeets', WHERE WHAT IT READS IS OF BULK AT MOST 1048576: true; the input reads as it did. -/
def labelMeetsUptoRow : OpenClaim := { program := "ytapmgcblofjpaaa", sum := "eaa823e0eef6f9a0b02664ca16ffbace93caf3abd464c8509f6d6da7e40dc11b", func := "syllogist/syllogistlaw.LabelMeets", spec := "labelMeets", apart := false, narrowed := true }
def LabelMeetsUptoSaid : Prop := labelMeetsUptoRow.holds Try.pinned (OpenSpec.upto labelMeetsSpec)

/-- 'syllogistlaw.LabelUnders', WHERE WHAT IT READS IS OF BULK AT MOST 1048576: true; the input reads as it did. -/
def labelUndersUptoRow : OpenClaim := { program := "ytapmgcblofjpaaa", sum := "eaa823e0eef6f9a0b02664ca16ffbace93caf3abd464c8509f6d6da7e40dc11b", func := "syllogist/syllogistlaw.LabelUnders", spec := "labelUnders", apart := false, narrowed := true }
def LabelUndersUptoSaid : Prop := labelUndersUptoRow.holds Try.pinned (OpenSpec.upto labelUndersSpec)

/-- 'syllogistlaw.LabelJoins', WHERE WHAT IT READS IS OF BULK AT MOST 1048576: true; the input reads as it did. -/
def labelJoinsUptoRow : OpenClaim := { program := "ytapmgcblofjpaaa", sum := "eaa823e0eef6f9a0b02664ca16ffbace93caf3abd464c8509f6d6da7e40dc11b", func := "syllogist/syllogistlaw.LabelJoins", spec := "labelJoins", apart := false, narrowed := true }
def LabelJoinsUptoSaid : Prop := labelJoinsUptoRow.holds Try.pinned (OpenSpec.upto labelJoinsSpec)

end Rows
end Go.Proofs.Ytapmgcblofjpaaa
