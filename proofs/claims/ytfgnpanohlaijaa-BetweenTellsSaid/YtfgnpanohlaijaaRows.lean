/-
  No cell of these rows narrows 'for every input' (looked for: loops, veiled, ifaces, maps, wideKeys, modest, calm, conditions, laid).
  DERIVED. THE GIVEN ROWS OF THIS SEAT. 8 by the template 'for every input the law returns true; each argument reads behind the call as it read before'; 0 by the template 'total and deterministic' (their statements: YtfgnpanohlaijaaTotals.lean).
  GIVEN WITH THE SEED: the statements are not yours to turn. If you find one false, say at which input.
  Laid BY PROGRAM, IN A SANDBOX (cutbox-rows.mjs): the forced cells as the released guide's own fill.sh prints them over the translation 917525c8a5af3106… (all of the seat's roots in one cut). By AI agents, Wed Nov 11 2026. No macro, syntax, notation, axiom, sorry.
-/
import Derived.Test.YtfgnpanohlaijaaChecked
import GoSem.Claim
import GoSem.ClaimJoined
import GoSem.ClaimMapViews
import Derived.JoinedTies
import Derived.KernelRfl
namespace Go.Proofs.Ytfgnpanohlaijaa
/- THE CELL 'sum', in the pinned program and in every row, IS THE sha256 OF THE DUMP (.gsa) THAT YtfgnpanohlaijaaProg.lean LOADS. Nothing in Lean hashes anything: it is a label: what it is worth is what the hold of that sum in a sandbox is worth. -/
noncomputable def Try.pinned : Pinned := { name := "ytfgnpanohlaijaa", sum := "917525c8a5af3106fbcaad48e222c909bc6a50a82a33da3f8b98d0e9f719a0b4", checked := Try.checked }
namespace Rows
def none {H : Type} : Left H := { results := [], args := [] }

/-- 'syllogistlaw.TruthDuals': WHATEVER THE INPUT: true; the input reads as it did. -/
def truthDualsSpec : ChangeSpec := { name := "truthDuals", fn := fun _ => fun
  | [d1, d2] => { results := [.lit (.bool true)], args := [d1, d2] }
  | _ => none }
def truthDualsRow : OpenClaim := { program := "ytfgnpanohlaijaa", sum := "917525c8a5af3106fbcaad48e222c909bc6a50a82a33da3f8b98d0e9f719a0b4", func := "syllogist/syllogistlaw.TruthDuals", spec := "truthDuals", plainKeys := false, apart := false }
def TruthDualsSaid : Prop := truthDualsRow.holds Try.pinned (OpenSpec.ofChange truthDualsSpec)

/-- ITS FALSE NEIGHBOUR: 'it returns false'. Refute it at one input. -/
def truthDualsWrong : ChangeSpec := { name := "truthDuals", fn := fun _ => fun
  | [d1, d2] => { results := [.lit (.bool false)], args := [d1, d2] }
  | _ => none }
def TruthDualsWrongFalsely : Prop := truthDualsRow.holds Try.pinned (OpenSpec.ofChange truthDualsWrong)

/-- 'syllogistlaw.TruthSums': WHATEVER THE INPUT: true; the input reads as it did. -/
def truthSumsSpec : ChangeSpec := { name := "truthSums", fn := fun _ => fun
  | [d1, d2] => { results := [.lit (.bool true)], args := [d1, d2] }
  | _ => none }
def truthSumsRow : OpenClaim := { program := "ytfgnpanohlaijaa", sum := "917525c8a5af3106fbcaad48e222c909bc6a50a82a33da3f8b98d0e9f719a0b4", func := "syllogist/syllogistlaw.TruthSums", spec := "truthSums", plainKeys := false, apart := false }
def TruthSumsSaid : Prop := truthSumsRow.holds Try.pinned (OpenSpec.ofChange truthSumsSpec)

/-- ITS FALSE NEIGHBOUR: 'it returns false'. Refute it at one input. -/
def truthSumsWrong : ChangeSpec := { name := "truthSums", fn := fun _ => fun
  | [d1, d2] => { results := [.lit (.bool false)], args := [d1, d2] }
  | _ => none }
def TruthSumsWrongFalsely : Prop := truthSumsRow.holds Try.pinned (OpenSpec.ofChange truthSumsWrong)

/-- 'syllogistlaw.TruthClasses': WHATEVER THE INPUT: true; the input reads as it did. -/
def truthClassesSpec : ChangeSpec := { name := "truthClasses", fn := fun _ => fun
  | [d1, d2] => { results := [.lit (.bool true)], args := [d1, d2] }
  | _ => none }
def truthClassesRow : OpenClaim := { program := "ytfgnpanohlaijaa", sum := "917525c8a5af3106fbcaad48e222c909bc6a50a82a33da3f8b98d0e9f719a0b4", func := "syllogist/syllogistlaw.TruthClasses", spec := "truthClasses", plainKeys := false, apart := false }
def TruthClassesSaid : Prop := truthClassesRow.holds Try.pinned (OpenSpec.ofChange truthClassesSpec)

/-- ITS FALSE NEIGHBOUR: 'it returns false'. Refute it at one input. -/
def truthClassesWrong : ChangeSpec := { name := "truthClasses", fn := fun _ => fun
  | [d1, d2] => { results := [.lit (.bool false)], args := [d1, d2] }
  | _ => none }
def TruthClassesWrongFalsely : Prop := truthClassesRow.holds Try.pinned (OpenSpec.ofChange truthClassesWrong)

/-- 'syllogistlaw.TruthWholes': WHATEVER THE INPUT: true; the input reads as it did. -/
def truthWholesSpec : ChangeSpec := { name := "truthWholes", fn := fun _ => fun
  | [d1, d2] => { results := [.lit (.bool true)], args := [d1, d2] }
  | _ => none }
def truthWholesRow : OpenClaim := { program := "ytfgnpanohlaijaa", sum := "917525c8a5af3106fbcaad48e222c909bc6a50a82a33da3f8b98d0e9f719a0b4", func := "syllogist/syllogistlaw.TruthWholes", spec := "truthWholes", plainKeys := false, apart := false }
def TruthWholesSaid : Prop := truthWholesRow.holds Try.pinned (OpenSpec.ofChange truthWholesSpec)

/-- ITS FALSE NEIGHBOUR: 'it returns false'. Refute it at one input. -/
def truthWholesWrong : ChangeSpec := { name := "truthWholes", fn := fun _ => fun
  | [d1, d2] => { results := [.lit (.bool false)], args := [d1, d2] }
  | _ => none }
def TruthWholesWrongFalsely : Prop := truthWholesRow.holds Try.pinned (OpenSpec.ofChange truthWholesWrong)

/-- 'syllogistlaw.TruthPrimes': WHATEVER THE INPUT: true; the input reads as it did. -/
def truthPrimesSpec : ChangeSpec := { name := "truthPrimes", fn := fun _ => fun
  | [d1, d2] => { results := [.lit (.bool true)], args := [d1, d2] }
  | _ => none }
def truthPrimesRow : OpenClaim := { program := "ytfgnpanohlaijaa", sum := "917525c8a5af3106fbcaad48e222c909bc6a50a82a33da3f8b98d0e9f719a0b4", func := "syllogist/syllogistlaw.TruthPrimes", spec := "truthPrimes", unfollowed := true, recurses := true, plainKeys := false, apart := false }
def TruthPrimesSaid : Prop := truthPrimesRow.holds Try.pinned (OpenSpec.ofChange truthPrimesSpec)

/-- ITS FALSE NEIGHBOUR: 'it returns false'. Refute it at one input. -/
def truthPrimesWrong : ChangeSpec := { name := "truthPrimes", fn := fun _ => fun
  | [d1, d2] => { results := [.lit (.bool false)], args := [d1, d2] }
  | _ => none }
def TruthPrimesWrongFalsely : Prop := truthPrimesRow.holds Try.pinned (OpenSpec.ofChange truthPrimesWrong)

/-- 'syllogistlaw.BetweenLeasts': WHATEVER THE INPUT: true; the input reads as it did. -/
def betweenLeastsSpec : ChangeSpec := { name := "betweenLeasts", fn := fun _ => fun
  | [d1, d2, d3] => { results := [.lit (.bool true)], args := [d1, d2, d3] }
  | _ => none }
def betweenLeastsRow : OpenClaim := { program := "ytfgnpanohlaijaa", sum := "917525c8a5af3106fbcaad48e222c909bc6a50a82a33da3f8b98d0e9f719a0b4", func := "syllogist/syllogistlaw.BetweenLeasts", spec := "betweenLeasts", plainKeys := false, apart := false }
def BetweenLeastsSaid : Prop := betweenLeastsRow.holds Try.pinned (OpenSpec.ofChange betweenLeastsSpec)

/-- ITS FALSE NEIGHBOUR: 'it returns false'. Refute it at one input. -/
def betweenLeastsWrong : ChangeSpec := { name := "betweenLeasts", fn := fun _ => fun
  | [d1, d2, d3] => { results := [.lit (.bool false)], args := [d1, d2, d3] }
  | _ => none }
def BetweenLeastsWrongFalsely : Prop := betweenLeastsRow.holds Try.pinned (OpenSpec.ofChange betweenLeastsWrong)

/-- 'syllogistlaw.BetweenMosts': WHATEVER THE INPUT: true; the input reads as it did. -/
def betweenMostsSpec : ChangeSpec := { name := "betweenMosts", fn := fun _ => fun
  | [d1, d2, d3] => { results := [.lit (.bool true)], args := [d1, d2, d3] }
  | _ => none }
def betweenMostsRow : OpenClaim := { program := "ytfgnpanohlaijaa", sum := "917525c8a5af3106fbcaad48e222c909bc6a50a82a33da3f8b98d0e9f719a0b4", func := "syllogist/syllogistlaw.BetweenMosts", spec := "betweenMosts", plainKeys := false, apart := false }
def BetweenMostsSaid : Prop := betweenMostsRow.holds Try.pinned (OpenSpec.ofChange betweenMostsSpec)

/-- ITS FALSE NEIGHBOUR: 'it returns false'. Refute it at one input. -/
def betweenMostsWrong : ChangeSpec := { name := "betweenMosts", fn := fun _ => fun
  | [d1, d2, d3] => { results := [.lit (.bool false)], args := [d1, d2, d3] }
  | _ => none }
def BetweenMostsWrongFalsely : Prop := betweenMostsRow.holds Try.pinned (OpenSpec.ofChange betweenMostsWrong)

/-- 'syllogistlaw.BetweenTells': WHATEVER THE INPUT: true; the input reads as it did. -/
def betweenTellsSpec : ChangeSpec := { name := "betweenTells", fn := fun _ => fun
  | [d1, d2, d3, d4] => { results := [.lit (.bool true)], args := [d1, d2, d3, d4] }
  | _ => none }
def betweenTellsRow : OpenClaim := { program := "ytfgnpanohlaijaa", sum := "917525c8a5af3106fbcaad48e222c909bc6a50a82a33da3f8b98d0e9f719a0b4", func := "syllogist/syllogistlaw.BetweenTells", spec := "betweenTells", plainKeys := false, apart := false }
def BetweenTellsSaid : Prop := betweenTellsRow.holds Try.pinned (OpenSpec.ofChange betweenTellsSpec)

/-- ITS FALSE NEIGHBOUR: 'it returns false'. Refute it at one input. -/
def betweenTellsWrong : ChangeSpec := { name := "betweenTells", fn := fun _ => fun
  | [d1, d2, d3, d4] => { results := [.lit (.bool false)], args := [d1, d2, d3, d4] }
  | _ => none }
def BetweenTellsWrongFalsely : Prop := betweenTellsRow.holds Try.pinned (OpenSpec.ofChange betweenTellsWrong)

/- THE SECOND FORM. 'bulk': how many values and letters a reading holds, each counted each time it is reached (what is shared counts as often as it is met; a slice's spare places count too). A statement '..UptoSaid' is the law's where the arguments, and the package variables that the reading takes, are together of bulk at most 1048576: NARROWER than '..Said'. Prove '..Said' where nothing that the law and all that it calls make is longer than what came in: it says more and counts as full. Else prove '..UptoSaid'. A law counts once. -/
mutual
def uptoBulk {H : Type} : DataW H → Nat
  | .lit (.string bytes) => bytes.length + 1
  | .lit _ => 1
  | .nil => 1
  | .ptr d => uptoBulk d + 1
  | .slice elems spare => uptoBulkAll elems + uptoBulkAll spare + 1
  | .agg parts => uptoBulkAll parts + 1
  | .iface _ d => uptoBulk d + 1
  | .map entries => uptoBulkEntries entries + 1
  | .held _ => 1
def uptoBulkAll {H : Type} : List (DataW H) → Nat
  | [] => 0
  | d :: r => uptoBulk d + uptoBulkAll r
def uptoBulkEntries {H : Type} : List (Lit × DataW H) → Nat
  | [] => 0
  | x :: r => uptoBulkEntry x + uptoBulkEntries r
def uptoBulkEntry {H : Type} : Lit × DataW H → Nat
  | (.string bytes, d) => bytes.length + uptoBulk d + 1
  | (_, d) => uptoBulk d + 1
 end
def uptoSmall : (H : Type) → List (DataW H) → Bool := fun _ ds => decide (uptoBulkAll ds ≤ 1048576)
def OpenSpec.upto (s : _root_.Go.ChangeSpec) : _root_.Go.OpenSpec := { _root_.Go.OpenSpec.ofChange s with cond := some uptoSmall }

/-- 'syllogistlaw.TruthDuals', WHERE WHAT IT READS IS OF BULK AT MOST 1048576: true; the input reads as it did. -/
def truthDualsUptoRow : OpenClaim := { program := "ytfgnpanohlaijaa", sum := "917525c8a5af3106fbcaad48e222c909bc6a50a82a33da3f8b98d0e9f719a0b4", func := "syllogist/syllogistlaw.TruthDuals", spec := "truthDuals", plainKeys := false, apart := false, narrowed := true }
def TruthDualsUptoSaid : Prop := truthDualsUptoRow.holds Try.pinned (OpenSpec.upto truthDualsSpec)

/-- 'syllogistlaw.TruthSums', WHERE WHAT IT READS IS OF BULK AT MOST 1048576: true; the input reads as it did. -/
def truthSumsUptoRow : OpenClaim := { program := "ytfgnpanohlaijaa", sum := "917525c8a5af3106fbcaad48e222c909bc6a50a82a33da3f8b98d0e9f719a0b4", func := "syllogist/syllogistlaw.TruthSums", spec := "truthSums", plainKeys := false, apart := false, narrowed := true }
def TruthSumsUptoSaid : Prop := truthSumsUptoRow.holds Try.pinned (OpenSpec.upto truthSumsSpec)

/-- 'syllogistlaw.TruthClasses', WHERE WHAT IT READS IS OF BULK AT MOST 1048576: true; the input reads as it did. -/
def truthClassesUptoRow : OpenClaim := { program := "ytfgnpanohlaijaa", sum := "917525c8a5af3106fbcaad48e222c909bc6a50a82a33da3f8b98d0e9f719a0b4", func := "syllogist/syllogistlaw.TruthClasses", spec := "truthClasses", plainKeys := false, apart := false, narrowed := true }
def TruthClassesUptoSaid : Prop := truthClassesUptoRow.holds Try.pinned (OpenSpec.upto truthClassesSpec)

/-- 'syllogistlaw.TruthWholes', WHERE WHAT IT READS IS OF BULK AT MOST 1048576: true; the input reads as it did. -/
def truthWholesUptoRow : OpenClaim := { program := "ytfgnpanohlaijaa", sum := "917525c8a5af3106fbcaad48e222c909bc6a50a82a33da3f8b98d0e9f719a0b4", func := "syllogist/syllogistlaw.TruthWholes", spec := "truthWholes", plainKeys := false, apart := false, narrowed := true }
def TruthWholesUptoSaid : Prop := truthWholesUptoRow.holds Try.pinned (OpenSpec.upto truthWholesSpec)

/-- 'syllogistlaw.TruthPrimes', WHERE WHAT IT READS IS OF BULK AT MOST 1048576: true; the input reads as it did. -/
def truthPrimesUptoRow : OpenClaim := { program := "ytfgnpanohlaijaa", sum := "917525c8a5af3106fbcaad48e222c909bc6a50a82a33da3f8b98d0e9f719a0b4", func := "syllogist/syllogistlaw.TruthPrimes", spec := "truthPrimes", unfollowed := true, recurses := true, plainKeys := false, apart := false, narrowed := true }
def TruthPrimesUptoSaid : Prop := truthPrimesUptoRow.holds Try.pinned (OpenSpec.upto truthPrimesSpec)

/-- 'syllogistlaw.BetweenLeasts', WHERE WHAT IT READS IS OF BULK AT MOST 1048576: true; the input reads as it did. -/
def betweenLeastsUptoRow : OpenClaim := { program := "ytfgnpanohlaijaa", sum := "917525c8a5af3106fbcaad48e222c909bc6a50a82a33da3f8b98d0e9f719a0b4", func := "syllogist/syllogistlaw.BetweenLeasts", spec := "betweenLeasts", plainKeys := false, apart := false, narrowed := true }
def BetweenLeastsUptoSaid : Prop := betweenLeastsUptoRow.holds Try.pinned (OpenSpec.upto betweenLeastsSpec)

/-- 'syllogistlaw.BetweenMosts', WHERE WHAT IT READS IS OF BULK AT MOST 1048576: true; the input reads as it did. -/
def betweenMostsUptoRow : OpenClaim := { program := "ytfgnpanohlaijaa", sum := "917525c8a5af3106fbcaad48e222c909bc6a50a82a33da3f8b98d0e9f719a0b4", func := "syllogist/syllogistlaw.BetweenMosts", spec := "betweenMosts", plainKeys := false, apart := false, narrowed := true }
def BetweenMostsUptoSaid : Prop := betweenMostsUptoRow.holds Try.pinned (OpenSpec.upto betweenMostsSpec)

/-- 'syllogistlaw.BetweenTells', WHERE WHAT IT READS IS OF BULK AT MOST 1048576: true; the input reads as it did. -/
def betweenTellsUptoRow : OpenClaim := { program := "ytfgnpanohlaijaa", sum := "917525c8a5af3106fbcaad48e222c909bc6a50a82a33da3f8b98d0e9f719a0b4", func := "syllogist/syllogistlaw.BetweenTells", spec := "betweenTells", plainKeys := false, apart := false, narrowed := true }
def BetweenTellsUptoSaid : Prop := betweenTellsUptoRow.holds Try.pinned (OpenSpec.upto betweenTellsSpec)

end Rows
end Go.Proofs.Ytfgnpanohlaijaa
