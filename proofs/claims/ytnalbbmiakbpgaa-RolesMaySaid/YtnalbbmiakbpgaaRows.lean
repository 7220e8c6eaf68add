/-
  No cell of these rows narrows 'for every input' (looked for: loops, veiled, ifaces, maps, wideKeys, modest, calm, conditions, laid).
  DERIVED. THE GIVEN ROWS OF THIS SEAT. 6 by the template 'for every input the law returns true; each argument reads behind the call as it read before'; 0 by the template 'total and deterministic' (their statements: YtnalbbmiakbpgaaTotals.lean).
  GIVEN WITH THE SEED: the statements are not yours to turn. If you find one false, say at which input.
  Laid BY PROGRAM, IN A SANDBOX (cutbox-rows.mjs): the forced cells as the released guide's own fill.sh prints them over the translation 581b88c45f27bdd2… (all of the seat's roots in one cut). By AI agents, Wed Nov 11 2026. No macro, syntax, notation, axiom, sorry.
-/
import Derived.Test.YtnalbbmiakbpgaaChecked
import GoSem.Claim
import GoSem.ClaimJoined
import GoSem.ClaimMapViews
import Derived.JoinedTies
import Derived.KernelRfl
namespace Go.Proofs.Ytnalbbmiakbpgaa
/- THE CELL 'sum', in the pinned program and in every row, IS THE sha256 OF THE DUMP (.gsa) THAT YtnalbbmiakbpgaaProg.lean LOADS. Nothing in Lean hashes anything: it is a label: what it is worth is what the hold of that sum in a sandbox is worth. -/
noncomputable def Try.pinned : Pinned := { name := "ytnalbbmiakbpgaa", sum := "581b88c45f27bdd2e1377479b32890c384118a02b4649c2ae6797caf38afdaab", checked := Try.checked }
namespace Rows
def none {H : Type} : Left H := { results := [], args := [] }

/-- 'syllogistlaw.DownsFills': WHATEVER THE INPUT: true; the input reads as it did. -/
def downsFillsSpec : ChangeSpec := { name := "downsFills", fn := fun _ => fun
  | [d1, d2, d3] => { results := [.lit (.bool true)], args := [d1, d2, d3] }
  | _ => none }
def downsFillsRow : OpenClaim := { program := "ytnalbbmiakbpgaa", sum := "581b88c45f27bdd2e1377479b32890c384118a02b4649c2ae6797caf38afdaab", func := "syllogist/syllogistlaw.DownsFills", spec := "downsFills", apart := false }
def DownsFillsSaid : Prop := downsFillsRow.holds Try.pinned (OpenSpec.ofChange downsFillsSpec)

/-- ITS FALSE NEIGHBOUR: 'it returns false'. Refute it at one input. -/
def downsFillsWrong : ChangeSpec := { name := "downsFills", fn := fun _ => fun
  | [d1, d2, d3] => { results := [.lit (.bool false)], args := [d1, d2, d3] }
  | _ => none }
def DownsFillsWrongFalsely : Prop := downsFillsRow.holds Try.pinned (OpenSpec.ofChange downsFillsWrong)

/-- 'syllogistlaw.DownsAlls': WHATEVER THE INPUT: true; the input reads as it did. -/
def downsAllsSpec : ChangeSpec := { name := "downsAlls", fn := fun _ => fun
  | [d1, d2] => { results := [.lit (.bool true)], args := [d1, d2] }
  | _ => none }
def downsAllsRow : OpenClaim := { program := "ytnalbbmiakbpgaa", sum := "581b88c45f27bdd2e1377479b32890c384118a02b4649c2ae6797caf38afdaab", func := "syllogist/syllogistlaw.DownsAlls", spec := "downsAlls", apart := false }
def DownsAllsSaid : Prop := downsAllsRow.holds Try.pinned (OpenSpec.ofChange downsAllsSpec)

/-- ITS FALSE NEIGHBOUR: 'it returns false'. Refute it at one input. -/
def downsAllsWrong : ChangeSpec := { name := "downsAlls", fn := fun _ => fun
  | [d1, d2] => { results := [.lit (.bool false)], args := [d1, d2] }
  | _ => none }
def DownsAllsWrongFalsely : Prop := downsAllsRow.holds Try.pinned (OpenSpec.ofChange downsAllsWrong)

/-- 'syllogistlaw.DownsManies': WHATEVER THE INPUT: true; the input reads as it did. -/
def downsManiesSpec : ChangeSpec := { name := "downsManies", fn := fun _ => fun
  | [d1, d2] => { results := [.lit (.bool true)], args := [d1, d2] }
  | _ => none }
def downsManiesRow : OpenClaim := { program := "ytnalbbmiakbpgaa", sum := "581b88c45f27bdd2e1377479b32890c384118a02b4649c2ae6797caf38afdaab", func := "syllogist/syllogistlaw.DownsManies", spec := "downsManies", apart := false }
def DownsManiesSaid : Prop := downsManiesRow.holds Try.pinned (OpenSpec.ofChange downsManiesSpec)

/-- ITS FALSE NEIGHBOUR: 'it returns false'. Refute it at one input. -/
def downsManiesWrong : ChangeSpec := { name := "downsManies", fn := fun _ => fun
  | [d1, d2] => { results := [.lit (.bool false)], args := [d1, d2] }
  | _ => none }
def DownsManiesWrongFalsely : Prop := downsManiesRow.holds Try.pinned (OpenSpec.ofChange downsManiesWrong)

/-- 'syllogistlaw.DownsEdges': WHATEVER THE INPUT: true; the input reads as it did. -/
def downsEdgesSpec : ChangeSpec := { name := "downsEdges", fn := fun _ => fun
  | [d1, d2, d3] => { results := [.lit (.bool true)], args := [d1, d2, d3] }
  | _ => none }
def downsEdgesRow : OpenClaim := { program := "ytnalbbmiakbpgaa", sum := "581b88c45f27bdd2e1377479b32890c384118a02b4649c2ae6797caf38afdaab", func := "syllogist/syllogistlaw.DownsEdges", spec := "downsEdges", apart := false }
def DownsEdgesSaid : Prop := downsEdgesRow.holds Try.pinned (OpenSpec.ofChange downsEdgesSpec)

/-- ITS FALSE NEIGHBOUR: 'it returns false'. Refute it at one input. -/
def downsEdgesWrong : ChangeSpec := { name := "downsEdges", fn := fun _ => fun
  | [d1, d2, d3] => { results := [.lit (.bool false)], args := [d1, d2, d3] }
  | _ => none }
def DownsEdgesWrongFalsely : Prop := downsEdgesRow.holds Try.pinned (OpenSpec.ofChange downsEdgesWrong)

/-- 'syllogistlaw.RolesMay': WHATEVER THE INPUT: true; the input reads as it did. -/
def rolesMaySpec : ChangeSpec := { name := "rolesMay", fn := fun _ => fun
  | [d1, d2, d3, d4] => { results := [.lit (.bool true)], args := [d1, d2, d3, d4] }
  | _ => none }
def rolesMayRow : OpenClaim := { program := "ytnalbbmiakbpgaa", sum := "581b88c45f27bdd2e1377479b32890c384118a02b4649c2ae6797caf38afdaab", func := "syllogist/syllogistlaw.RolesMay", spec := "rolesMay", apart := false }
def RolesMaySaid : Prop := rolesMayRow.holds Try.pinned (OpenSpec.ofChange rolesMaySpec)

/-- ITS FALSE NEIGHBOUR: 'it returns false'. Refute it at one input. -/
def rolesMayWrong : ChangeSpec := { name := "rolesMay", fn := fun _ => fun
  | [d1, d2, d3, d4] => { results := [.lit (.bool false)], args := [d1, d2, d3, d4] }
  | _ => none }
def RolesMayWrongFalsely : Prop := rolesMayRow.holds Try.pinned (OpenSpec.ofChange rolesMayWrong)

/-- 'syllogistlaw.RolesPlays': WHATEVER THE INPUT: true; the input reads as it did. -/
def rolesPlaysSpec : ChangeSpec := { name := "rolesPlays", fn := fun _ => fun
  | [d1, d2, d3, d4, d5] => { results := [.lit (.bool true)], args := [d1, d2, d3, d4, d5] }
  | _ => none }
def rolesPlaysRow : OpenClaim := { program := "ytnalbbmiakbpgaa", sum := "581b88c45f27bdd2e1377479b32890c384118a02b4649c2ae6797caf38afdaab", func := "syllogist/syllogistlaw.RolesPlays", spec := "rolesPlays", unfollowed := true, recurses := true, apart := false }
def RolesPlaysSaid : Prop := rolesPlaysRow.holds Try.pinned (OpenSpec.ofChange rolesPlaysSpec)

/-- ITS FALSE NEIGHBOUR: 'it returns false'. Refute it at one input. -/
def rolesPlaysWrong : ChangeSpec := { name := "rolesPlays", fn := fun _ => fun
  | [d1, d2, d3, d4, d5] => { results := [.lit (.bool false)], args := [d1, d2, d3, d4, d5] }
  | _ => none }
def RolesPlaysWrongFalsely : Prop := rolesPlaysRow.holds Try.pinned (OpenSpec.ofChange rolesPlaysWrong)

/- THE SECOND FORM. 'bulk': how many values and letters a reading holds, each counted each time it is reached (what is shared counts as often as it is met; a slice's spare places count too). A statement '..UptoSaid' is the law's where the arguments, and the package variables that the reading takes, are together of bulk at most 1048576: NARROWER than '..Said'. Prove '..Said' where nothing that the law and all that it calls make is longer than what came in: it says more and counts as full. Else prove '..UptoSaid'. A law counts once. -/
mutual
def uptoBulk {H : Type} : DataW H → Nat
  | .lit (.string bytes) => bytes.length + 1
  | .lit _ => 1
  | .nil => 1
  | .ptr d => uptoBulk d + 1
  | .slice elems spare => uptoBulkAll elems + uptoBulkAll spare + 1
  | .agg parts => uptoBulkAll parts + 1
  | .iface _ d => uptoBulk d + 1
  | .map entries => uptoBulkEntries entries + 1
  | .held _ => 1
def uptoBulkAll {H : Type} : List (DataW H) → Nat
  | [] => 0
  | d :: r => uptoBulk d + uptoBulkAll r
def uptoBulkEntries {H : Type} : List (Lit × DataW H) → Nat
  | [] => 0
  | x :: r => uptoBulkEntry x + uptoBulkEntries r
def uptoBulkEntry {H : Type} : Lit × DataW H → Nat
  | (.string bytes, d) => bytes.length + uptoBulk d + 1
  | (_, d) => uptoBulk d + 1
 end
def uptoSmall : (H : Type) → List (DataW H) → Bool := fun _ ds => decide (uptoBulkAll ds ≤ 1048576)
def OpenSpec.upto (s : _root_.Go.ChangeSpec) : _root_.Go.OpenSpec := { _root_.Go.OpenSpec.ofChange s with cond := some uptoSmall }

/-- 'syllogistlaw.DownsFills', WHERE WHAT IT READS IS OF BULK AT MOST 1048576: true; the input reads as it did. -/
def downsFillsUptoRow : OpenClaim := { program := "ytnalbbmiakbpgaa", sum := "581b88c45f27bdd2e1377479b32890c384118a02b4649c2ae6797caf38afdaab", func := "syllogist/syllogistlaw.DownsFills", spec := "downsFills", apart := false, narrowed := true }
def DownsFillsUptoSaid : Prop := downsFillsUptoRow.holds Try.pinned (OpenSpec.upto downsFillsSpec)

/-- 'syllogistlaw.DownsAlls', WHERE WHAT IT READS IS OF BULK AT MOST 1048576: true; the input reads as it did. -/
def downsAllsUptoRow : OpenClaim := { program := "ytnalbbmiakbpgaa", sum := "581b88c45f27bdd2e1377479b32890c384118a02b4649c2ae6797caf38afdaab", func := "syllogist/syllogistlaw.DownsAlls", spec := "downsAlls", apart := false, narrowed := true }
def DownsAllsUptoSaid : Prop := downsAllsUptoRow.holds Try.pinned (OpenSpec.upto downsAllsSpec)

/-- 'syllogistlaw.DownsManies', WHERE WHAT IT READS IS OF BULK AT MOST 1048576: true; the input reads as it did. -/
def downsManiesUptoRow : OpenClaim := { program := "ytnalbbmiakbpgaa", sum := "581b88c45f27bdd2e1377479b32890c384118a02b4649c2ae6797caf38afdaab", func := "syllogist/syllogistlaw.DownsManies", spec := "downsManies", apart := false, narrowed := true }
def DownsManiesUptoSaid : Prop := downsManiesUptoRow.holds Try.pinned (OpenSpec.upto downsManiesSpec)

/-- 'syllogistlaw.DownsEdges', WHERE WHAT IT READS IS OF BULK AT MOST 1048576: true; the input reads as it did. -/
def downsEdgesUptoRow : OpenClaim := { program := "ytnalbbmiakbpgaa", sum := "581b88c45f27bdd2e1377479b32890c384118a02b4649c2ae6797caf38afdaab", func := "syllogist/syllogistlaw.DownsEdges", spec := "downsEdges", apart := false, narrowed := true }
def DownsEdgesUptoSaid : Prop := downsEdgesUptoRow.holds Try.pinned (OpenSpec.upto downsEdgesSpec)

/-- 'syllogistlaw.RolesMay', WHERE WHAT IT READS IS OF BULK AT MOST 1048576: true; the input reads as it did. -/
def rolesMayUptoRow : OpenClaim := { program := "ytnalbbmiakbpgaa", sum := "581b88c45f27bdd2e1377479b32890c384118a02b4649c2ae6797caf38afdaab", func := "syllogist/syllogistlaw.RolesMay", spec := "rolesMay", apart := false, narrowed := true }
def RolesMayUptoSaid : Prop := rolesMayUptoRow.holds Try.pinned (OpenSpec.upto rolesMaySpec)

/-- 'syllogistlaw.RolesPlays', WHERE WHAT IT READS IS OF BULK AT MOST 1048576: true; the input reads as it did. -/
def rolesPlaysUptoRow : OpenClaim := { program := "ytnalbbmiakbpgaa", sum := "581b88c45f27bdd2e1377479b32890c384118a02b4649c2ae6797caf38afdaab", func := "syllogist/syllogistlaw.RolesPlays", spec := "rolesPlays", unfollowed := true, recurses := true, apart := false, narrowed := true }
def RolesPlaysUptoSaid : Prop := rolesPlaysUptoRow.holds Try.pinned (OpenSpec.upto rolesPlaysSpec)

end Rows
end Go.Proofs.Ytnalbbmiakbpgaa
