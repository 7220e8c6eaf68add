/-
  No cell of these rows narrows 'for every input' (looked for: loops, veiled, ifaces, maps, wideKeys, modest, calm, conditions, laid).
  DERIVED. THE GIVEN ROWS OF THIS SEAT. 9 by the template 'for every input the law returns true; each argument reads behind the call as it read before'; 0 by the template 'total and deterministic' (their statements: YtohfiinnkoinlaaTotals.lean).
  GIVEN WITH THE SEED: the statements are not yours to turn. If you find one false, say at which input.
  Laid BY PROGRAM, IN A SANDBOX (cutbox-rows.mjs): the forced cells as the released guide's own fill.sh prints them over the translation 805640f374e4aa2c… (all of the seat's roots in one cut). By AI agents, Wed Nov 11 2026. No macro, syntax, notation, axiom, sorry.
-/
import Derived.Test.YtohfiinnkoinlaaChecked
import GoSem.Claim
import GoSem.ClaimJoined
import GoSem.ClaimMapViews
import Derived.JoinedTies
import Derived.KernelRfl
namespace Go.Proofs.Ytohfiinnkoinlaa
/- THE CELL 'sum', in the pinned program and in every row, IS THE sha256 OF THE DUMP (.gsa) THAT YtohfiinnkoinlaaProg.lean LOADS. Nothing in Lean hashes anything: it is a label: what it is worth is what the hold of that sum in a sandbox is worth. -/
noncomputable def Try.pinned : Pinned := { name := "ytohfiinnkoinlaa", sum := "805640f374e4aa2c046e7a8d1d33db018450fe637b877b912c7d826017c54115", checked := Try.checked }
namespace Rows
def none {H : Type} : Left H := { results := [], args := [] }

/-- 'syllogistlaw.FollowCloses': WHATEVER THE INPUT: true; the input reads as it did. -/
def followClosesSpec : ChangeSpec := { name := "followCloses", fn := fun _ => fun
  | [d1, d2, d3] => { results := [.lit (.bool true)], args := [d1, d2, d3] }
  | _ => none }
def followClosesRow : OpenClaim := { program := "ytohfiinnkoinlaa", sum := "805640f374e4aa2c046e7a8d1d33db018450fe637b877b912c7d826017c54115", func := "syllogist/syllogistlaw.FollowCloses", spec := "followCloses", apart := false }
def FollowClosesSaid : Prop := followClosesRow.holds Try.pinned (OpenSpec.ofChange followClosesSpec)

/-- ITS FALSE NEIGHBOUR: 'it returns false'. Refute it at one input. -/
def followClosesWrong : ChangeSpec := { name := "followCloses", fn := fun _ => fun
  | [d1, d2, d3] => { results := [.lit (.bool false)], args := [d1, d2, d3] }
  | _ => none }
def FollowClosesWrongFalsely : Prop := followClosesRow.holds Try.pinned (OpenSpec.ofChange followClosesWrong)

/-- 'syllogistlaw.FollowDoes': WHATEVER THE INPUT: true; the input reads as it did. -/
def followDoesSpec : ChangeSpec := { name := "followDoes", fn := fun _ => fun
  | [d1, d2, d3] => { results := [.lit (.bool true)], args := [d1, d2, d3] }
  | _ => none }
def followDoesRow : OpenClaim := { program := "ytohfiinnkoinlaa", sum := "805640f374e4aa2c046e7a8d1d33db018450fe637b877b912c7d826017c54115", func := "syllogist/syllogistlaw.FollowDoes", spec := "followDoes", apart := false }
def FollowDoesSaid : Prop := followDoesRow.holds Try.pinned (OpenSpec.ofChange followDoesSpec)

/-- ITS FALSE NEIGHBOUR: 'it returns false'. Refute it at one input. -/
def followDoesWrong : ChangeSpec := { name := "followDoes", fn := fun _ => fun
  | [d1, d2, d3] => { results := [.lit (.bool false)], args := [d1, d2, d3] }
  | _ => none }
def FollowDoesWrongFalsely : Prop := followDoesRow.holds Try.pinned (OpenSpec.ofChange followDoesWrong)

/-- 'syllogistlaw.FollowCloseds': WHATEVER THE INPUT: true; the input reads as it did. -/
def followClosedsSpec : ChangeSpec := { name := "followCloseds", fn := fun _ => fun
  | [d1, d2] => { results := [.lit (.bool true)], args := [d1, d2] }
  | _ => none }
def followClosedsRow : OpenClaim := { program := "ytohfiinnkoinlaa", sum := "805640f374e4aa2c046e7a8d1d33db018450fe637b877b912c7d826017c54115", func := "syllogist/syllogistlaw.FollowCloseds", spec := "followCloseds", apart := false }
def FollowClosedsSaid : Prop := followClosedsRow.holds Try.pinned (OpenSpec.ofChange followClosedsSpec)

/-- ITS FALSE NEIGHBOUR: 'it returns false'. Refute it at one input. -/
def followClosedsWrong : ChangeSpec := { name := "followCloseds", fn := fun _ => fun
  | [d1, d2] => { results := [.lit (.bool false)], args := [d1, d2] }
  | _ => none }
def FollowClosedsWrongFalsely : Prop := followClosedsRow.holds Try.pinned (OpenSpec.ofChange followClosedsWrong)

/-- 'syllogistlaw.FollowKeys': WHATEVER THE INPUT: true; the input reads as it did. -/
def followKeysSpec : ChangeSpec := { name := "followKeys", fn := fun _ => fun
  | [d1, d2] => { results := [.lit (.bool true)], args := [d1, d2] }
  | _ => none }
def followKeysRow : OpenClaim := { program := "ytohfiinnkoinlaa", sum := "805640f374e4aa2c046e7a8d1d33db018450fe637b877b912c7d826017c54115", func := "syllogist/syllogistlaw.FollowKeys", spec := "followKeys", unfollowed := true, recurses := true, apart := false }
def FollowKeysSaid : Prop := followKeysRow.holds Try.pinned (OpenSpec.ofChange followKeysSpec)

/-- ITS FALSE NEIGHBOUR: 'it returns false'. Refute it at one input. -/
def followKeysWrong : ChangeSpec := { name := "followKeys", fn := fun _ => fun
  | [d1, d2] => { results := [.lit (.bool false)], args := [d1, d2] }
  | _ => none }
def FollowKeysWrongFalsely : Prop := followKeysRow.holds Try.pinned (OpenSpec.ofChange followKeysWrong)

/-- 'syllogistlaw.FollowLeasts': WHATEVER THE INPUT: true; the input reads as it did. -/
def followLeastsSpec : ChangeSpec := { name := "followLeasts", fn := fun _ => fun
  | [d1, d2] => { results := [.lit (.bool true)], args := [d1, d2] }
  | _ => none }
def followLeastsRow : OpenClaim := { program := "ytohfiinnkoinlaa", sum := "805640f374e4aa2c046e7a8d1d33db018450fe637b877b912c7d826017c54115", func := "syllogist/syllogistlaw.FollowLeasts", spec := "followLeasts", apart := false }
def FollowLeastsSaid : Prop := followLeastsRow.holds Try.pinned (OpenSpec.ofChange followLeastsSpec)

/-- ITS FALSE NEIGHBOUR: 'it returns false'. Refute it at one input. -/
def followLeastsWrong : ChangeSpec := { name := "followLeasts", fn := fun _ => fun
  | [d1, d2] => { results := [.lit (.bool false)], args := [d1, d2] }
  | _ => none }
def FollowLeastsWrongFalsely : Prop := followLeastsRow.holds Try.pinned (OpenSpec.ofChange followLeastsWrong)

/-- 'syllogistlaw.FixAlls': WHATEVER THE INPUT: true; the input reads as it did. -/
def fixAllsSpec : ChangeSpec := { name := "fixAlls", fn := fun _ => fun
  | [d1, d2] => { results := [.lit (.bool true)], args := [d1, d2] }
  | _ => none }
def fixAllsRow : OpenClaim := { program := "ytohfiinnkoinlaa", sum := "805640f374e4aa2c046e7a8d1d33db018450fe637b877b912c7d826017c54115", func := "syllogist/syllogistlaw.FixAlls", spec := "fixAlls", unfollowed := true, recurses := true, apart := false }
def FixAllsSaid : Prop := fixAllsRow.holds Try.pinned (OpenSpec.ofChange fixAllsSpec)

/-- ITS FALSE NEIGHBOUR: 'it returns false'. Refute it at one input. -/
def fixAllsWrong : ChangeSpec := { name := "fixAlls", fn := fun _ => fun
  | [d1, d2] => { results := [.lit (.bool false)], args := [d1, d2] }
  | _ => none }
def FixAllsWrongFalsely : Prop := fixAllsRow.holds Try.pinned (OpenSpec.ofChange fixAllsWrong)

/-- 'syllogistlaw.FixRises': WHATEVER THE INPUT: true; the input reads as it did. -/
def fixRisesSpec : ChangeSpec := { name := "fixRises", fn := fun _ => fun
  | [d1, d2] => { results := [.lit (.bool true)], args := [d1, d2] }
  | _ => none }
def fixRisesRow : OpenClaim := { program := "ytohfiinnkoinlaa", sum := "805640f374e4aa2c046e7a8d1d33db018450fe637b877b912c7d826017c54115", func := "syllogist/syllogistlaw.FixRises", spec := "fixRises", unfollowed := true, recurses := true, apart := false }
def FixRisesSaid : Prop := fixRisesRow.holds Try.pinned (OpenSpec.ofChange fixRisesSpec)

/-- ITS FALSE NEIGHBOUR: 'it returns false'. Refute it at one input. -/
def fixRisesWrong : ChangeSpec := { name := "fixRises", fn := fun _ => fun
  | [d1, d2] => { results := [.lit (.bool false)], args := [d1, d2] }
  | _ => none }
def FixRisesWrongFalsely : Prop := fixRisesRow.holds Try.pinned (OpenSpec.ofChange fixRisesWrong)

/-- 'syllogistlaw.FixLeasts': WHATEVER THE INPUT: true; the input reads as it did. -/
def fixLeastsSpec : ChangeSpec := { name := "fixLeasts", fn := fun _ => fun
  | [d1, d2] => { results := [.lit (.bool true)], args := [d1, d2] }
  | _ => none }
def fixLeastsRow : OpenClaim := { program := "ytohfiinnkoinlaa", sum := "805640f374e4aa2c046e7a8d1d33db018450fe637b877b912c7d826017c54115", func := "syllogist/syllogistlaw.FixLeasts", spec := "fixLeasts", unfollowed := true, recurses := true, apart := false }
def FixLeastsSaid : Prop := fixLeastsRow.holds Try.pinned (OpenSpec.ofChange fixLeastsSpec)

/-- ITS FALSE NEIGHBOUR: 'it returns false'. Refute it at one input. -/
def fixLeastsWrong : ChangeSpec := { name := "fixLeasts", fn := fun _ => fun
  | [d1, d2] => { results := [.lit (.bool false)], args := [d1, d2] }
  | _ => none }
def FixLeastsWrongFalsely : Prop := fixLeastsRow.holds Try.pinned (OpenSpec.ofChange fixLeastsWrong)

/-- 'syllogistlaw.FixMosts': WHATEVER THE INPUT: true; the input reads as it did. -/
def fixMostsSpec : ChangeSpec := { name := "fixMosts", fn := fun _ => fun
  | [d1, d2] => { results := [.lit (.bool true)], args := [d1, d2] }
  | _ => none }
def fixMostsRow : OpenClaim := { program := "ytohfiinnkoinlaa", sum := "805640f374e4aa2c046e7a8d1d33db018450fe637b877b912c7d826017c54115", func := "syllogist/syllogistlaw.FixMosts", spec := "fixMosts", unfollowed := true, recurses := true, apart := false }
def FixMostsSaid : Prop := fixMostsRow.holds Try.pinned (OpenSpec.ofChange fixMostsSpec)

/-- ITS FALSE NEIGHBOUR: 'it returns false'. Refute it at one input. -/
def fixMostsWrong : ChangeSpec := { name := "fixMosts", fn := fun _ => fun
  | [d1, d2] => { results := [.lit (.bool false)], args := [d1, d2] }
  | _ => none }
def FixMostsWrongFalsely : Prop := fixMostsRow.holds Try.pinned (OpenSpec.ofChange fixMostsWrong)

/- THE SECOND FORM. 'bulk': how many values and letters a reading holds, each counted each time it is reached (what is shared counts as often as it is met; a slice's spare places count too). A statement '..UptoSaid' is the law's where the arguments, and the package variables that the reading takes, are together of bulk at most 1048576: NARROWER than '..Said'. Prove '..Said' where nothing that the law and all that it calls make is longer than what came in: it says more and counts as full. Else prove '..UptoSaid'. A law counts once. -/
mutual
def uptoBulk {H : Type} : DataW H → Nat
  | .lit (.string bytes) => bytes.length + 1
  | .lit _ => 1
  | .nil => 1
  | .ptr d => uptoBulk d + 1
  | .slice elems spare => uptoBulkAll elems + uptoBulkAll spare + 1
  | .agg parts => uptoBulkAll parts + 1
  | .iface _ d => uptoBulk d + 1
  | .map entries => uptoBulkEntries entries + 1
  | .held _ => 1
def uptoBulkAll {H : Type} : List (DataW H) → Nat
  | [] => 0
  | d :: r => uptoBulk d + uptoBulkAll r
def uptoBulkEntries {H : Type} : List (Lit × DataW H) → Nat
  | [] => 0
  | x :: r => uptoBulkEntry x + uptoBulkEntries r
def uptoBulkEntry {H : Type} : Lit × DataW H → Nat
  | (.string bytes, d) => bytes.length + uptoBulk d + 1
  | (_, d) => uptoBulk d + 1
 end
def uptoSmall : (H : Type) → List (DataW H) → Bool := fun _ ds => decide (uptoBulkAll ds ≤ 1048576)
def OpenSpec.upto (s : _root_.Go.ChangeSpec) : _root_.Go.OpenSpec := { _root_.Go.OpenSpec.ofChange s with cond := some uptoSmall }

/-- 'syllogistlaw.FollowCloses', WHERE WHAT IT READS IS OF BULK AT MOST 1048576: true; the input reads as it did. -/
def followClosesUptoRow : OpenClaim := { program := "ytohfiinnkoinlaa", sum := "805640f374e4aa2c046e7a8d1d33db018450fe637b877b912c7d826017c54115", func := "syllogist/syllogistlaw.FollowCloses", spec := "followCloses", apart := false, narrowed := true }
def FollowClosesUptoSaid : Prop := followClosesUptoRow.holds Try.pinned (OpenSpec.upto followClosesSpec)

/-- 'syllogistlaw.FollowDoes', WHERE WHAT IT READS IS OF BULK AT MOST 1048576: true; the input reads as it did. -/
def followDoesUptoRow : OpenClaim := { program := "ytohfiinnkoinlaa", sum := "805640f374e4aa2c046e7a8d1d33db018450fe637b877b912c7d826017c54115", func := "syllogist/syllogistlaw.FollowDoes", spec := "followDoes", apart := false, narrowed := true }
def FollowDoesUptoSaid : Prop := followDoesUptoRow.holds Try.pinned (OpenSpec.upto followDoesSpec)

/-- 'syllogistlaw.FollowCloseds', WHERE WHAT IT READS IS OF BULK AT MOST 1048576: true; the input reads as it did. -/
def followClosedsUptoRow : OpenClaim := { program := "ytohfiinnkoinlaa", sum := "805640f374e4aa2c046e7a8d1d33db018450fe637b877b912c7d826017c54115", func := "syllogist/syllogistlaw.FollowCloseds", spec := "followCloseds", apart := false, narrowed := true }
def FollowClosedsUptoSaid : Prop := followClosedsUptoRow.holds Try.pinned (OpenSpec.upto followClosedsSpec)

/-- 'syllogistlaw.FollowKeys', WHERE WHAT IT READS IS OF BULK AT MOST 1048576: true; the input reads as it did. -/
def followKeysUptoRow : OpenClaim := { program := "ytohfiinnkoinlaa", sum := "805640f374e4aa2c046e7a8d1d33db018450fe637b877b912c7d826017c54115", func := "syllogist/syllogistlaw.FollowKeys", spec := "followKeys", unfollowed := true, recurses := true, apart := false, narrowed := true }
def FollowKeysUptoSaid : Prop := followKeysUptoRow.holds Try.pinned (OpenSpec.upto followKeysSpec)

/-- 'syllogistlaw.FollowLeasts', WHERE WHAT IT READS IS OF BULK AT MOST 1048576: true; the input reads as it did. -/
def followLeastsUptoRow : OpenClaim := { program := "ytohfiinnkoinlaa", sum := "805640f374e4aa2c046e7a8d1d33db018450fe637b877b912c7d826017c54115", func := "syllogist/syllogistlaw.FollowLeasts", spec := "followLeasts", apart := false, narrowed := true }
def FollowLeastsUptoSaid : Prop := followLeastsUptoRow.holds Try.pinned (OpenSpec.upto followLeastsSpec)

/-- 'syllogistlaw.FixAlls', WHERE WHAT IT READS IS OF BULK AT MOST 1048576: true; the input reads as it did. -/
def fixAllsUptoRow : OpenClaim := { program := "ytohfiinnkoinlaa", sum := "805640f374e4aa2c046e7a8d1d33db018450fe637b877b912c7d826017c54115", func := "syllogist/syllogistlaw.FixAlls", spec := "fixAlls", unfollowed := true, recurses := true, apart := false, narrowed := true }
def FixAllsUptoSaid : Prop := fixAllsUptoRow.holds Try.pinned (OpenSpec.upto fixAllsSpec)

/-- 'syllogistlaw.FixRises', WHERE WHAT IT READS IS OF BULK AT MOST 1048576: true; the input reads as it did. -/
def fixRisesUptoRow : OpenClaim := { program := "ytohfiinnkoinlaa", sum := "805640f374e4aa2c046e7a8d1d33db018450fe637b877b912c7d826017c54115", func := "syllogist/syllogistlaw.FixRises", spec := "fixRises", unfollowed := true, recurses := true, apart := false, narrowed := true }
def FixRisesUptoSaid : Prop := fixRisesUptoRow.holds Try.pinned (OpenSpec.upto fixRisesSpec)

/-- 'syllogistlaw.FixLeasts', WHERE WHAT IT READS IS OF BULK AT MOST 1048576: true; the input reads as it did. -/
def fixLeastsUptoRow : OpenClaim := { program := "ytohfiinnkoinlaa", sum := "805640f374e4aa2c046e7a8d1d33db018450fe637b877b912c7d826017c54115", func := "syllogist/syllogistlaw.FixLeasts", spec := "fixLeasts", unfollowed := true, recurses := true, apart := false, narrowed := true }
def FixLeastsUptoSaid : Prop := fixLeastsUptoRow.holds Try.pinned (OpenSpec.upto fixLeastsSpec)

/-- 'syllogistlaw.FixMosts', WHERE WHAT IT READS IS OF BULK AT MOST 1048576: true; the input reads as it did. -/
def fixMostsUptoRow : OpenClaim := { program := "ytohfiinnkoinlaa", sum := "805640f374e4aa2c046e7a8d1d33db018450fe637b877b912c7d826017c54115", func := "syllogist/syllogistlaw.FixMosts", spec := "fixMosts", unfollowed := true, recurses := true, apart := false, narrowed := true }
def FixMostsUptoSaid : Prop := fixMostsUptoRow.holds Try.pinned (OpenSpec.upto fixMostsSpec)

end Rows
end Go.Proofs.Ytohfiinnkoinlaa
