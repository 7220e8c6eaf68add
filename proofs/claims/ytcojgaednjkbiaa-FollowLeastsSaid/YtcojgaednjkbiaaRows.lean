/-
  No cell of these rows narrows 'for every input' (looked for: loops, veiled, ifaces, maps, wideKeys, modest, calm, conditions, laid).
  DERIVED. THE GIVEN ROWS OF THIS SEAT. 2 by the template 'for every input the law returns true; each argument reads behind the call as it read before'; 0 by the template 'total and deterministic' (their statements: YtcojgaednjkbiaaTotals.lean).
  GIVEN WITH THE SEED: the statements are not yours to turn. If you find one false, say at which input.
  Laid BY PROGRAM, IN A SANDBOX (cutbox-rows.mjs): the forced cells as the released guide's own fill.sh prints them over the translation 9425e783e14a8f3f… (all of the seat's roots in one cut). By AI agents, Wed Nov 11 2026. No macro, syntax, notation, axiom, sorry.
-/
import Derived.Test.YtcojgaednjkbiaaChecked
import GoSem.Claim
import GoSem.ClaimJoined
import GoSem.ClaimMapViews
import Derived.JoinedTies
import Derived.KernelRfl
namespace Go.Proofs.Ytcojgaednjkbiaa
/- THE CELL 'sum', in the pinned program and in every row, IS THE sha256 OF THE DUMP (.gsa) THAT YtcojgaednjkbiaaProg.lean LOADS. Nothing in Lean hashes anything: it is a label: what it is worth is what the hold of that sum in a sandbox is worth. -/
noncomputable def Try.pinned : Pinned := { name := "ytcojgaednjkbiaa", sum := "9425e783e14a8f3f90a8b27e3df6990e309b553e84f0ef1255344b26d47b3044", checked := Try.checked }
namespace Rows
def none {H : Type} : Left H := { results := [], args := [] }

/-- 'syllogistlaw.FixAlls': WHATEVER THE INPUT: true; the input reads as it did. -/
def fixAllsSpec : ChangeSpec := { name := "fixAlls", fn := fun _ => fun
  | [d1, d2] => { results := [.lit (.bool true)], args := [d1, d2] }
  | _ => none }
def fixAllsRow : OpenClaim := { program := "ytcojgaednjkbiaa", sum := "9425e783e14a8f3f90a8b27e3df6990e309b553e84f0ef1255344b26d47b3044", func := "syllogist/syllogistlaw.FixAlls", spec := "fixAlls", unfollowed := true, recurses := true, apart := false }
def FixAllsSaid : Prop := fixAllsRow.holds Try.pinned (OpenSpec.ofChange fixAllsSpec)

/-- ITS FALSE NEIGHBOUR: 'it returns false'. Refute it at one input. -/
def fixAllsWrong : ChangeSpec := { name := "fixAlls", fn := fun _ => fun
  | [d1, d2] => { results := [.lit (.bool false)], args := [d1, d2] }
  | _ => none }
def FixAllsWrongFalsely : Prop := fixAllsRow.holds Try.pinned (OpenSpec.ofChange fixAllsWrong)

/-- 'syllogistlaw.FollowLeasts': WHATEVER THE INPUT: true; the input reads as it did. -/
def followLeastsSpec : ChangeSpec := { name := "followLeasts", fn := fun _ => fun
  | [d1, d2] => { results := [.lit (.bool true)], args := [d1, d2] }
  | _ => none }
def followLeastsRow : OpenClaim := { program := "ytcojgaednjkbiaa", sum := "9425e783e14a8f3f90a8b27e3df6990e309b553e84f0ef1255344b26d47b3044", func := "syllogist/syllogistlaw.FollowLeasts", spec := "followLeasts", apart := false }
def FollowLeastsSaid : Prop := followLeastsRow.holds Try.pinned (OpenSpec.ofChange followLeastsSpec)

/-- ITS FALSE NEIGHBOUR: 'it returns false'. Refute it at one input. -/
def followLeastsWrong : ChangeSpec := { name := "followLeasts", fn := fun _ => fun
  | [d1, d2] => { results := [.lit (.bool false)], args := [d1, d2] }
  | _ => none }
def FollowLeastsWrongFalsely : Prop := followLeastsRow.holds Try.pinned (OpenSpec.ofChange followLeastsWrong)

/- THE SECOND FORM. 'bulk': how many values and letters a reading holds, each counted each time it is reached (what is shared counts as often as it is met; a slice's spare places count too). A statement '..UptoSaid' is the law's where the arguments, and the package variables that the reading takes, are together of bulk at most 1048576: NARROWER than '..Said'. Prove '..Said' where nothing that the law and all that it calls make is longer than what came in: it says more and counts as full. Else prove '..UptoSaid'. A law counts once. -/
mutual
def uptoBulk {H : Type} : DataW H → Nat
  | .lit (.string bytes) => bytes.length + 1
  | .lit _ => 1
  | .nil => 1
  | .ptr d => uptoBulk d + 1
  | .slice elems spare => uptoBulkAll elems + uptoBulkAll spare + 1
  | .agg parts => uptoBulkAll parts + 1
  | .iface _ d => uptoBulk d + 1
  | .map entries => uptoBulkEntries entries + 1
  | .held _ => 1
def uptoBulkAll {H : Type} : List (DataW H) → Nat
  | [] => 0
  | d :: r => uptoBulk d + uptoBulkAll r
def uptoBulkEntries {H : Type} : List (Lit × DataW H) → Nat
  | [] => 0
  | x :: r => uptoBulkEntry x + uptoBulkEntries r
def uptoBulkEntry {H : Type} : Lit × DataW H → Nat
  | (.string bytes, d) => bytes.length + uptoBulk d + 1
  | (_, d) => uptoBulk d + 1
 end
def uptoSmall : (H : Type) → List (DataW H) → Bool := fun _ ds => decide (uptoBulkAll ds ≤ 1048576)
def OpenSpec.upto (s : _root_.Go.ChangeSpec) : _root_.Go.OpenSpec := { _root_.Go.OpenSpec.ofChange s with cond := some uptoSmall }

/-- 'syllogistlaw.FixAlls', WHERE WHAT IT READS IS OF BULK AT MOST 1048576: true; the input reads as it did. -/
def fixAllsUptoRow : OpenClaim := { program := "ytcojgaednjkbiaa", sum := "9425e783e14a8f3f90a8b27e3df6990e309b553e84f0ef1255344b26d47b3044", func := "syllogist/syllogistlaw.FixAlls", spec := "fixAlls", unfollowed := true, recurses := true, apart := false, narrowed := true }
def FixAllsUptoSaid : Prop := fixAllsUptoRow.holds Try.pinned (OpenSpec.upto fixAllsSpec)

/-- 'syllogistlaw.FollowLeasts', WHERE WHAT IT READS IS OF BULK AT MOST 1048576: true; the input reads as it did. -/
def followLeastsUptoRow : OpenClaim := { program := "ytcojgaednjkbiaa", sum := "9425e783e14a8f3f90a8b27e3df6990e309b553e84f0ef1255344b26d47b3044", func := "syllogist/syllogistlaw.FollowLeasts", spec := "followLeasts", apart := false, narrowed := true }
def FollowLeastsUptoSaid : Prop := followLeastsUptoRow.holds Try.pinned (OpenSpec.upto followLeastsSpec)

end Rows
end Go.Proofs.Ytcojgaednjkbiaa
