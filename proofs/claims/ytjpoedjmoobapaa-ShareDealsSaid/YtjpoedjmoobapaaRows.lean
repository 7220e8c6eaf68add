/-
  No cell of these rows narrows 'for every input' (looked for: loops, veiled, ifaces, maps, wideKeys, modest, calm, conditions, laid).
  DERIVED. THE GIVEN ROWS OF THIS SEAT. 4 by the template 'for every input the law returns true; each argument reads behind the call as it read before'; 0 by the template 'total and deterministic' (their statements: YtjpoedjmoobapaaTotals.lean).
  GIVEN WITH THE SEED: the statements are not yours to turn. If you find one false, say at which input.
  Laid BY PROGRAM, IN A SANDBOX (cutbox-rows.mjs): the forced cells as the released guide's own fill.sh prints them over the translation 64834abcf1aa390b… (all of the seat's roots in one cut). By AI agents, Wed Nov 11 2026. No macro, syntax, notation, axiom, sorry.
-/
import Derived.Test.YtjpoedjmoobapaaChecked
import GoSem.Claim
import GoSem.ClaimJoined
import GoSem.ClaimMapViews
import Derived.JoinedTies
import Derived.KernelRfl
namespace Go.Proofs.Ytjpoedjmoobapaa
/- THE CELL 'sum', in the pinned program and in every row, IS THE sha256 OF THE DUMP (.gsa) THAT YtjpoedjmoobapaaProg.lean LOADS. Nothing in Lean hashes anything: it is a label: what it is worth is what the hold of that sum in a sandbox is worth. -/
noncomputable def Try.pinned : Pinned := { name := "ytjpoedjmoobapaa", sum := "64834abcf1aa390bd7be9c04f45321877eebd9695580c1c715d2d71b50567c8c", checked := Try.checked }
namespace Rows
def none {H : Type} : Left H := { results := [], args := [] }

/-- 'syllogistlaw.ShareLost': WHATEVER THE INPUT: true; the input reads as it did. -/
def shareLostSpec : ChangeSpec := { name := "shareLost", fn := fun _ => fun
  | [d1, d2] => { results := [.lit (.bool true)], args := [d1, d2] }
  | _ => none }
def shareLostRow : OpenClaim := { program := "ytjpoedjmoobapaa", sum := "64834abcf1aa390bd7be9c04f45321877eebd9695580c1c715d2d71b50567c8c", func := "syllogist/syllogistlaw.ShareLost", spec := "shareLost", unfollowed := true, recurses := true, apart := false }
def ShareLostSaid : Prop := shareLostRow.holds Try.pinned (OpenSpec.ofChange shareLostSpec)

/-- ITS FALSE NEIGHBOUR: 'it returns false'. Refute it at one input. -/
def shareLostWrong : ChangeSpec := { name := "shareLost", fn := fun _ => fun
  | [d1, d2] => { results := [.lit (.bool false)], args := [d1, d2] }
  | _ => none }
def ShareLostWrongFalsely : Prop := shareLostRow.holds Try.pinned (OpenSpec.ofChange shareLostWrong)

/-- 'syllogistlaw.ShareJoins': WHATEVER THE INPUT: true; the input reads as it did. -/
def shareJoinsSpec : ChangeSpec := { name := "shareJoins", fn := fun _ => fun
  | [d1, d2, d3, d4] => { results := [.lit (.bool true)], args := [d1, d2, d3, d4] }
  | _ => none }
def shareJoinsRow : OpenClaim := { program := "ytjpoedjmoobapaa", sum := "64834abcf1aa390bd7be9c04f45321877eebd9695580c1c715d2d71b50567c8c", func := "syllogist/syllogistlaw.ShareJoins", spec := "shareJoins", unfollowed := true, recurses := true, apart := false }
def ShareJoinsSaid : Prop := shareJoinsRow.holds Try.pinned (OpenSpec.ofChange shareJoinsSpec)

/-- ITS FALSE NEIGHBOUR: 'it returns false'. Refute it at one input. -/
def shareJoinsWrong : ChangeSpec := { name := "shareJoins", fn := fun _ => fun
  | [d1, d2, d3, d4] => { results := [.lit (.bool false)], args := [d1, d2, d3, d4] }
  | _ => none }
def ShareJoinsWrongFalsely : Prop := shareJoinsRow.holds Try.pinned (OpenSpec.ofChange shareJoinsWrong)

/-- 'syllogistlaw.ShareDeals': WHATEVER THE INPUT: true; the input reads as it did. -/
def shareDealsSpec : ChangeSpec := { name := "shareDeals", fn := fun _ => fun
  | [d1, d2, d3, d4] => { results := [.lit (.bool true)], args := [d1, d2, d3, d4] }
  | _ => none }
def shareDealsRow : OpenClaim := { program := "ytjpoedjmoobapaa", sum := "64834abcf1aa390bd7be9c04f45321877eebd9695580c1c715d2d71b50567c8c", func := "syllogist/syllogistlaw.ShareDeals", spec := "shareDeals", unfollowed := true, recurses := true, apart := false }
def ShareDealsSaid : Prop := shareDealsRow.holds Try.pinned (OpenSpec.ofChange shareDealsSpec)

/-- ITS FALSE NEIGHBOUR: 'it returns false'. Refute it at one input. -/
def shareDealsWrong : ChangeSpec := { name := "shareDeals", fn := fun _ => fun
  | [d1, d2, d3, d4] => { results := [.lit (.bool false)], args := [d1, d2, d3, d4] }
  | _ => none }
def ShareDealsWrongFalsely : Prop := shareDealsRow.holds Try.pinned (OpenSpec.ofChange shareDealsWrong)

/-- 'syllogistlaw.RolesPlays': WHATEVER THE INPUT: true; the input reads as it did. -/
def rolesPlaysSpec : ChangeSpec := { name := "rolesPlays", fn := fun _ => fun
  | [d1, d2, d3, d4, d5] => { results := [.lit (.bool true)], args := [d1, d2, d3, d4, d5] }
  | _ => none }
def rolesPlaysRow : OpenClaim := { program := "ytjpoedjmoobapaa", sum := "64834abcf1aa390bd7be9c04f45321877eebd9695580c1c715d2d71b50567c8c", func := "syllogist/syllogistlaw.RolesPlays", spec := "rolesPlays", unfollowed := true, recurses := true, apart := false }
def RolesPlaysSaid : Prop := rolesPlaysRow.holds Try.pinned (OpenSpec.ofChange rolesPlaysSpec)

/-- ITS FALSE NEIGHBOUR: 'it returns false'. Refute it at one input. -/
def rolesPlaysWrong : ChangeSpec := { name := "rolesPlays", fn := fun _ => fun
  | [d1, d2, d3, d4, d5] => { results := [.lit (.bool false)], args := [d1, d2, d3, d4, d5] }
  | _ => none }
def RolesPlaysWrongFalsely : Prop := rolesPlaysRow.holds Try.pinned (OpenSpec.ofChange rolesPlaysWrong)

/- THE SECOND FORM. 'bulk': how many values and letters a reading holds, each counted each time it is reached (what is shared counts as often as it is met; a slice's spare places count too). A statement '..UptoSaid' is the law's where the arguments, and the package variables that the reading takes, are together of bulk at most 1048576: NARROWER than '..Said'. Prove '..Said' where nothing that the law and all that it calls make is longer than what came in: it says more and counts as full. Else prove '..UptoSaid'. A law counts once. -/
mutual
def uptoBulk {H : Type} : DataW H → Nat
  | .lit (.string bytes) => bytes.length + 1
  | .lit _ => 1
  | .nil => 1
  | .ptr d => uptoBulk d + 1
  | .slice elems spare => uptoBulkAll elems + uptoBulkAll spare + 1
  | .agg parts => uptoBulkAll parts + 1
  | .iface _ d => uptoBulk d + 1
  | .map entries => uptoBulkEntries entries + 1
  | .held _ => 1
def uptoBulkAll {H : Type} : List (DataW H) → Nat
  | [] => 0
  | d :: r => uptoBulk d + uptoBulkAll r
def uptoBulkEntries {H : Type} : List (Lit × DataW H) → Nat
  | [] => 0
  | x :: r => uptoBulkEntry x + uptoBulkEntries r
def uptoBulkEntry {H : Type} : Lit × DataW H → Nat
  | (.string bytes, d) => bytes.length + uptoBulk d + 1
  | (_, d) => uptoBulk d + 1
 end
def uptoSmall : (H : Type) → List (DataW H) → Bool := fun _ ds => decide (uptoBulkAll ds ≤ 1048576)
def OpenSpec.upto (s : _root_.Go.ChangeSpec) : _root_.Go.OpenSpec := { _root_.Go.OpenSpec.ofChange s with cond := some uptoSmall }

/-- 'syllogistlaw.ShareLost', WHERE WHAT IT READS IS OF BULK AT MOST 1048576: true; the input reads as it did. -/
def shareLostUptoRow : OpenClaim := { program := "ytjpoedjmoobapaa", sum := "64834abcf1aa390bd7be9c04f45321877eebd9695580c1c715d2d71b50567c8c", func := "syllogist/syllogistlaw.ShareLost", spec := "shareLost", unfollowed := true, recurses := true, apart := false, narrowed := true }
def ShareLostUptoSaid : Prop := shareLostUptoRow.holds Try.pinned (OpenSpec.upto shareLostSpec)

/-- 'syllogistlaw.ShareJoins', WHERE WHAT IT READS IS OF BULK AT MOST 1048576: true; the input reads as it did. -/
def shareJoinsUptoRow : OpenClaim := { program := "ytjpoedjmoobapaa", sum := "64834abcf1aa390bd7be9c04f45321877eebd9695580c1c715d2d71b50567c8c", func := "syllogist/syllogistlaw.ShareJoins", spec := "shareJoins", unfollowed := true, recurses := true, apart := false, narrowed := true }
def ShareJoinsUptoSaid : Prop := shareJoinsUptoRow.holds Try.pinned (OpenSpec.upto shareJoinsSpec)

/-- 'syllogistlaw.ShareDeals', WHERE WHAT IT READS IS OF BULK AT MOST 1048576: true; the input reads as it did. -/
def shareDealsUptoRow : OpenClaim := { program := "ytjpoedjmoobapaa", sum := "64834abcf1aa390bd7be9c04f45321877eebd9695580c1c715d2d71b50567c8c", func := "syllogist/syllogistlaw.ShareDeals", spec := "shareDeals", unfollowed := true, recurses := true, apart := false, narrowed := true }
def ShareDealsUptoSaid : Prop := shareDealsUptoRow.holds Try.pinned (OpenSpec.upto shareDealsSpec)

/-- 'syllogistlaw.RolesPlays', WHERE WHAT IT READS IS OF BULK AT MOST 1048576: true; the input reads as it did. -/
def rolesPlaysUptoRow : OpenClaim := { program := "ytjpoedjmoobapaa", sum := "64834abcf1aa390bd7be9c04f45321877eebd9695580c1c715d2d71b50567c8c", func := "syllogist/syllogistlaw.RolesPlays", spec := "rolesPlays", unfollowed := true, recurses := true, apart := false, narrowed := true }
def RolesPlaysUptoSaid : Prop := rolesPlaysUptoRow.holds Try.pinned (OpenSpec.upto rolesPlaysSpec)

end Rows
end Go.Proofs.Ytjpoedjmoobapaa
