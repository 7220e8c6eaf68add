/-
  No cell of these rows narrows 'for every input' (looked for: loops, veiled, ifaces, maps, wideKeys, modest, calm, conditions, laid).
  DERIVED. THE GIVEN ROWS OF THIS SEAT. 12 by the template 'for every input the law returns true; each argument reads behind the call as it read before'; 0 by the template 'total and deterministic' (their statements: YtjpbdannibmplaaTotals.lean).
  GIVEN WITH THE SEED: the statements are not yours to turn. If you find one false, say at which input.
  Laid BY PROGRAM, IN A SANDBOX (cutbox-rows.mjs): the forced cells as the released guide's own fill.sh prints them over the translation 1dbc9efc2dc6db41… (all of the seat's roots in one cut). By AI agents, Wed Nov 11 2026. No macro, syntax, notation, axiom, sorry.
-/
import Derived.Test.YtjpbdannibmplaaChecked
import GoSem.Claim
import GoSem.ClaimJoined
import GoSem.ClaimMapViews
import Derived.JoinedTies
import Derived.KernelRfl
namespace Go.Proofs.Ytjpbdannibmplaa
/- THE CELL 'sum', in the pinned program and in every row, IS THE sha256 OF THE DUMP (.gsa) THAT YtjpbdannibmplaaProg.lean LOADS. Nothing in Lean hashes anything: it is a label: what it is worth is what the hold of that sum in a sandbox is worth. -/
noncomputable def Try.pinned : Pinned := { name := "ytjpbdannibmplaa", sum := "1dbc9efc2dc6db4152d804271434ca16a5ed9855e35303e58931ec5295c0586d", checked := Try.checked }
namespace Rows
def none {H : Type} : Left H := { results := [], args := [] }

/-- 'syllogistlaw.OrderTables': WHATEVER THE INPUT: true; the input reads as it did. -/
def orderTablesSpec : ChangeSpec := { name := "orderTables", fn := fun _ => fun
  | [d1, d2] => { results := [.lit (.bool true)], args := [d1, d2] }
  | _ => none }
def orderTablesRow : OpenClaim := { program := "ytjpbdannibmplaa", sum := "1dbc9efc2dc6db4152d804271434ca16a5ed9855e35303e58931ec5295c0586d", func := "syllogist/syllogistlaw.OrderTables", spec := "orderTables", apart := false }
def OrderTablesSaid : Prop := orderTablesRow.holds Try.pinned (OpenSpec.ofChange orderTablesSpec)

/-- ITS FALSE NEIGHBOUR: 'it returns false'. Refute it at one input. -/
def orderTablesWrong : ChangeSpec := { name := "orderTables", fn := fun _ => fun
  | [d1, d2] => { results := [.lit (.bool false)], args := [d1, d2] }
  | _ => none }
def OrderTablesWrongFalsely : Prop := orderTablesRow.holds Try.pinned (OpenSpec.ofChange orderTablesWrong)

/-- 'syllogistlaw.OrderCovers': WHATEVER THE INPUT: true; the input reads as it did. -/
def orderCoversSpec : ChangeSpec := { name := "orderCovers", fn := fun _ => fun
  | [d1, d2] => { results := [.lit (.bool true)], args := [d1, d2] }
  | _ => none }
def orderCoversRow : OpenClaim := { program := "ytjpbdannibmplaa", sum := "1dbc9efc2dc6db4152d804271434ca16a5ed9855e35303e58931ec5295c0586d", func := "syllogist/syllogistlaw.OrderCovers", spec := "orderCovers", apart := false }
def OrderCoversSaid : Prop := orderCoversRow.holds Try.pinned (OpenSpec.ofChange orderCoversSpec)

/-- ITS FALSE NEIGHBOUR: 'it returns false'. Refute it at one input. -/
def orderCoversWrong : ChangeSpec := { name := "orderCovers", fn := fun _ => fun
  | [d1, d2] => { results := [.lit (.bool false)], args := [d1, d2] }
  | _ => none }
def OrderCoversWrongFalsely : Prop := orderCoversRow.holds Try.pinned (OpenSpec.ofChange orderCoversWrong)

/-- 'syllogistlaw.OrderLines': WHATEVER THE INPUT: true; the input reads as it did. -/
def orderLinesSpec : ChangeSpec := { name := "orderLines", fn := fun _ => fun
  | [d1, d2] => { results := [.lit (.bool true)], args := [d1, d2] }
  | _ => none }
def orderLinesRow : OpenClaim := { program := "ytjpbdannibmplaa", sum := "1dbc9efc2dc6db4152d804271434ca16a5ed9855e35303e58931ec5295c0586d", func := "syllogist/syllogistlaw.OrderLines", spec := "orderLines", recurses := true, apart := false }
def OrderLinesSaid : Prop := orderLinesRow.holds Try.pinned (OpenSpec.ofChange orderLinesSpec)

/-- ITS FALSE NEIGHBOUR: 'it returns false'. Refute it at one input. -/
def orderLinesWrong : ChangeSpec := { name := "orderLines", fn := fun _ => fun
  | [d1, d2] => { results := [.lit (.bool false)], args := [d1, d2] }
  | _ => none }
def OrderLinesWrongFalsely : Prop := orderLinesRow.holds Try.pinned (OpenSpec.ofChange orderLinesWrong)

/-- 'syllogistlaw.OrderAparts': WHATEVER THE INPUT: true; the input reads as it did. -/
def orderApartsSpec : ChangeSpec := { name := "orderAparts", fn := fun _ => fun
  | [d1, d2] => { results := [.lit (.bool true)], args := [d1, d2] }
  | _ => none }
def orderApartsRow : OpenClaim := { program := "ytjpbdannibmplaa", sum := "1dbc9efc2dc6db4152d804271434ca16a5ed9855e35303e58931ec5295c0586d", func := "syllogist/syllogistlaw.OrderAparts", spec := "orderAparts", apart := false }
def OrderApartsSaid : Prop := orderApartsRow.holds Try.pinned (OpenSpec.ofChange orderApartsSpec)

/-- ITS FALSE NEIGHBOUR: 'it returns false'. Refute it at one input. -/
def orderApartsWrong : ChangeSpec := { name := "orderAparts", fn := fun _ => fun
  | [d1, d2] => { results := [.lit (.bool false)], args := [d1, d2] }
  | _ => none }
def OrderApartsWrongFalsely : Prop := orderApartsRow.holds Try.pinned (OpenSpec.ofChange orderApartsWrong)

/-- 'syllogistlaw.OrderChains': WHATEVER THE INPUT: true; the input reads as it did. -/
def orderChainsSpec : ChangeSpec := { name := "orderChains", fn := fun _ => fun
  | [d1, d2] => { results := [.lit (.bool true)], args := [d1, d2] }
  | _ => none }
def orderChainsRow : OpenClaim := { program := "ytjpbdannibmplaa", sum := "1dbc9efc2dc6db4152d804271434ca16a5ed9855e35303e58931ec5295c0586d", func := "syllogist/syllogistlaw.OrderChains", spec := "orderChains", unfollowed := true, recurses := true, apart := false }
def OrderChainsSaid : Prop := orderChainsRow.holds Try.pinned (OpenSpec.ofChange orderChainsSpec)

/-- ITS FALSE NEIGHBOUR: 'it returns false'. Refute it at one input. -/
def orderChainsWrong : ChangeSpec := { name := "orderChains", fn := fun _ => fun
  | [d1, d2] => { results := [.lit (.bool false)], args := [d1, d2] }
  | _ => none }
def OrderChainsWrongFalsely : Prop := orderChainsRow.holds Try.pinned (OpenSpec.ofChange orderChainsWrong)

/-- 'syllogistlaw.OrderSplits': WHATEVER THE INPUT: true; the input reads as it did. -/
def orderSplitsSpec : ChangeSpec := { name := "orderSplits", fn := fun _ => fun
  | [d1, d2] => { results := [.lit (.bool true)], args := [d1, d2] }
  | _ => none }
def orderSplitsRow : OpenClaim := { program := "ytjpbdannibmplaa", sum := "1dbc9efc2dc6db4152d804271434ca16a5ed9855e35303e58931ec5295c0586d", func := "syllogist/syllogistlaw.OrderSplits", spec := "orderSplits", recurses := true, apart := false }
def OrderSplitsSaid : Prop := orderSplitsRow.holds Try.pinned (OpenSpec.ofChange orderSplitsSpec)

/-- ITS FALSE NEIGHBOUR: 'it returns false'. Refute it at one input. -/
def orderSplitsWrong : ChangeSpec := { name := "orderSplits", fn := fun _ => fun
  | [d1, d2] => { results := [.lit (.bool false)], args := [d1, d2] }
  | _ => none }
def OrderSplitsWrongFalsely : Prop := orderSplitsRow.holds Try.pinned (OpenSpec.ofChange orderSplitsWrong)

/-- 'syllogistlaw.LatticeIs': WHATEVER THE INPUT: true; the input reads as it did. -/
def latticeIsSpec : ChangeSpec := { name := "latticeIs", fn := fun _ => fun
  | [d1, d2] => { results := [.lit (.bool true)], args := [d1, d2] }
  | _ => none }
def latticeIsRow : OpenClaim := { program := "ytjpbdannibmplaa", sum := "1dbc9efc2dc6db4152d804271434ca16a5ed9855e35303e58931ec5295c0586d", func := "syllogist/syllogistlaw.LatticeIs", spec := "latticeIs", apart := false }
def LatticeIsSaid : Prop := latticeIsRow.holds Try.pinned (OpenSpec.ofChange latticeIsSpec)

/-- ITS FALSE NEIGHBOUR: 'it returns false'. Refute it at one input. -/
def latticeIsWrong : ChangeSpec := { name := "latticeIs", fn := fun _ => fun
  | [d1, d2] => { results := [.lit (.bool false)], args := [d1, d2] }
  | _ => none }
def LatticeIsWrongFalsely : Prop := latticeIsRow.holds Try.pinned (OpenSpec.ofChange latticeIsWrong)

/-- 'syllogistlaw.LatticeJoins': WHATEVER THE INPUT: true; the input reads as it did. -/
def latticeJoinsSpec : ChangeSpec := { name := "latticeJoins", fn := fun _ => fun
  | [d1, d2, d3, d4] => { results := [.lit (.bool true)], args := [d1, d2, d3, d4] }
  | _ => none }
def latticeJoinsRow : OpenClaim := { program := "ytjpbdannibmplaa", sum := "1dbc9efc2dc6db4152d804271434ca16a5ed9855e35303e58931ec5295c0586d", func := "syllogist/syllogistlaw.LatticeJoins", spec := "latticeJoins", unfollowed := true, recurses := true, apart := false }
def LatticeJoinsSaid : Prop := latticeJoinsRow.holds Try.pinned (OpenSpec.ofChange latticeJoinsSpec)

/-- ITS FALSE NEIGHBOUR: 'it returns false'. Refute it at one input. -/
def latticeJoinsWrong : ChangeSpec := { name := "latticeJoins", fn := fun _ => fun
  | [d1, d2, d3, d4] => { results := [.lit (.bool false)], args := [d1, d2, d3, d4] }
  | _ => none }
def LatticeJoinsWrongFalsely : Prop := latticeJoinsRow.holds Try.pinned (OpenSpec.ofChange latticeJoinsWrong)

/-- 'syllogistlaw.LatticeMeets': WHATEVER THE INPUT: true; the input reads as it did. -/
def latticeMeetsSpec : ChangeSpec := { name := "latticeMeets", fn := fun _ => fun
  | [d1, d2, d3, d4] => { results := [.lit (.bool true)], args := [d1, d2, d3, d4] }
  | _ => none }
def latticeMeetsRow : OpenClaim := { program := "ytjpbdannibmplaa", sum := "1dbc9efc2dc6db4152d804271434ca16a5ed9855e35303e58931ec5295c0586d", func := "syllogist/syllogistlaw.LatticeMeets", spec := "latticeMeets", unfollowed := true, recurses := true, apart := false }
def LatticeMeetsSaid : Prop := latticeMeetsRow.holds Try.pinned (OpenSpec.ofChange latticeMeetsSpec)

/-- ITS FALSE NEIGHBOUR: 'it returns false'. Refute it at one input. -/
def latticeMeetsWrong : ChangeSpec := { name := "latticeMeets", fn := fun _ => fun
  | [d1, d2, d3, d4] => { results := [.lit (.bool false)], args := [d1, d2, d3, d4] }
  | _ => none }
def LatticeMeetsWrongFalsely : Prop := latticeMeetsRow.holds Try.pinned (OpenSpec.ofChange latticeMeetsWrong)

/-- 'syllogistlaw.LatticeShares': WHATEVER THE INPUT: true; the input reads as it did. -/
def latticeSharesSpec : ChangeSpec := { name := "latticeShares", fn := fun _ => fun
  | [d1, d2] => { results := [.lit (.bool true)], args := [d1, d2] }
  | _ => none }
def latticeSharesRow : OpenClaim := { program := "ytjpbdannibmplaa", sum := "1dbc9efc2dc6db4152d804271434ca16a5ed9855e35303e58931ec5295c0586d", func := "syllogist/syllogistlaw.LatticeShares", spec := "latticeShares", apart := false }
def LatticeSharesSaid : Prop := latticeSharesRow.holds Try.pinned (OpenSpec.ofChange latticeSharesSpec)

/-- ITS FALSE NEIGHBOUR: 'it returns false'. Refute it at one input. -/
def latticeSharesWrong : ChangeSpec := { name := "latticeShares", fn := fun _ => fun
  | [d1, d2] => { results := [.lit (.bool false)], args := [d1, d2] }
  | _ => none }
def LatticeSharesWrongFalsely : Prop := latticeSharesRow.holds Try.pinned (OpenSpec.ofChange latticeSharesWrong)

/-- 'syllogistlaw.LatticeModulars': WHATEVER THE INPUT: true; the input reads as it did. -/
def latticeModularsSpec : ChangeSpec := { name := "latticeModulars", fn := fun _ => fun
  | [d1, d2] => { results := [.lit (.bool true)], args := [d1, d2] }
  | _ => none }
def latticeModularsRow : OpenClaim := { program := "ytjpbdannibmplaa", sum := "1dbc9efc2dc6db4152d804271434ca16a5ed9855e35303e58931ec5295c0586d", func := "syllogist/syllogistlaw.LatticeModulars", spec := "latticeModulars", apart := false }
def LatticeModularsSaid : Prop := latticeModularsRow.holds Try.pinned (OpenSpec.ofChange latticeModularsSpec)

/-- ITS FALSE NEIGHBOUR: 'it returns false'. Refute it at one input. -/
def latticeModularsWrong : ChangeSpec := { name := "latticeModulars", fn := fun _ => fun
  | [d1, d2] => { results := [.lit (.bool false)], args := [d1, d2] }
  | _ => none }
def LatticeModularsWrongFalsely : Prop := latticeModularsRow.holds Try.pinned (OpenSpec.ofChange latticeModularsWrong)

/-- 'syllogistlaw.LatticeIrreducibles': WHATEVER THE INPUT: true; the input reads as it did. -/
def latticeIrreduciblesSpec : ChangeSpec := { name := "latticeIrreducibles", fn := fun _ => fun
  | [d1, d2] => { results := [.lit (.bool true)], args := [d1, d2] }
  | _ => none }
def latticeIrreduciblesRow : OpenClaim := { program := "ytjpbdannibmplaa", sum := "1dbc9efc2dc6db4152d804271434ca16a5ed9855e35303e58931ec5295c0586d", func := "syllogist/syllogistlaw.LatticeIrreducibles", spec := "latticeIrreducibles", apart := false }
def LatticeIrreduciblesSaid : Prop := latticeIrreduciblesRow.holds Try.pinned (OpenSpec.ofChange latticeIrreduciblesSpec)

/-- ITS FALSE NEIGHBOUR: 'it returns false'. Refute it at one input. -/
def latticeIrreduciblesWrong : ChangeSpec := { name := "latticeIrreducibles", fn := fun _ => fun
  | [d1, d2] => { results := [.lit (.bool false)], args := [d1, d2] }
  | _ => none }
def LatticeIrreduciblesWrongFalsely : Prop := latticeIrreduciblesRow.holds Try.pinned (OpenSpec.ofChange latticeIrreduciblesWrong)

/- THE SECOND FORM. 'bulk': how many values and letters a reading holds, each counted each time it is reached (what is shared counts as often as it is met; a slice's spare places count too). A statement '..UptoSaid' is the law's where the arguments, and the package variables that the reading takes, are together of bulk at most 1048576: NARROWER than '..Said'. Prove '..Said' where nothing that the law and all that it calls make is longer than what came in: it says more and counts as full. Else prove '..UptoSaid'. A law counts once. -/
mutual
def uptoBulk {H : Type} : DataW H → Nat
  | .lit (.string bytes) => bytes.length + 1
  | .lit _ => 1
  | .nil => 1
  | .ptr d => uptoBulk d + 1
  | .slice elems spare => uptoBulkAll elems + uptoBulkAll spare + 1
  | .agg parts => uptoBulkAll parts + 1
  | .iface _ d => uptoBulk d + 1
  | .map entries => uptoBulkEntries entries + 1
  | .held _ => 1
def uptoBulkAll {H : Type} : List (DataW H) → Nat
  | [] => 0
  | d :: r => uptoBulk d + uptoBulkAll r
def uptoBulkEntries {H : Type} : List (Lit × DataW H) → Nat
  | [] => 0
  | x :: r => uptoBulkEntry x + uptoBulkEntries r
def uptoBulkEntry {H : Type} : Lit × DataW H → Nat
  | (.string bytes, d) => bytes.length + uptoBulk d + 1
  | (_, d) => uptoBulk d + 1
 end
def uptoSmall : (H : Type) → List (DataW H) → Bool := fun _ ds => decide (uptoBulkAll ds ≤ 1048576)
def OpenSpec.upto (s : _root_.Go.ChangeSpec) : _root_.Go.OpenSpec := { _root_.Go.OpenSpec.ofChange s with cond := some uptoSmall }

/-- 'syllogistlaw.OrderTables', WHERE WHAT IT READS IS OF BULK AT MOST 1048576: true; the input reads as it did. -/
def orderTablesUptoRow : OpenClaim := { program := "ytjpbdannibmplaa", sum := "1dbc9efc2dc6db4152d804271434ca16a5ed9855e35303e58931ec5295c0586d", func := "syllogist/syllogistlaw.OrderTables", spec := "orderTables", apart := false, narrowed := true }
def OrderTablesUptoSaid : Prop := orderTablesUptoRow.holds Try.pinned (OpenSpec.upto orderTablesSpec)

/-- 'syllogistlaw.OrderCovers', WHERE WHAT IT READS IS OF BULK AT MOST 1048576: true; the input reads as it did. -/
def orderCoversUptoRow : OpenClaim := { program := "ytjpbdannibmplaa", sum := "1dbc9efc2dc6db4152d804271434ca16a5ed9855e35303e58931ec5295c0586d", func := "syllogist/syllogistlaw.OrderCovers", spec := "orderCovers", apart := false, narrowed := true }
def OrderCoversUptoSaid : Prop := orderCoversUptoRow.holds Try.pinned (OpenSpec.upto orderCoversSpec)

/-- 'syllogistlaw.OrderLines', WHERE WHAT IT READS IS OF BULK AT MOST 1048576: true; the input reads as it did. -/
def orderLinesUptoRow : OpenClaim := { program := "ytjpbdannibmplaa", sum := "1dbc9efc2dc6db4152d804271434ca16a5ed9855e35303e58931ec5295c0586d", func := "syllogist/syllogistlaw.OrderLines", spec := "orderLines", recurses := true, apart := false, narrowed := true }
def OrderLinesUptoSaid : Prop := orderLinesUptoRow.holds Try.pinned (OpenSpec.upto orderLinesSpec)

/-- 'syllogistlaw.OrderAparts', WHERE WHAT IT READS IS OF BULK AT MOST 1048576: true; the input reads as it did. -/
def orderApartsUptoRow : OpenClaim := { program := "ytjpbdannibmplaa", sum := "1dbc9efc2dc6db4152d804271434ca16a5ed9855e35303e58931ec5295c0586d", func := "syllogist/syllogistlaw.OrderAparts", spec := "orderAparts", apart := false, narrowed := true }
def OrderApartsUptoSaid : Prop := orderApartsUptoRow.holds Try.pinned (OpenSpec.upto orderApartsSpec)

/-- 'syllogistlaw.OrderChains', WHERE WHAT IT READS IS OF BULK AT MOST 1048576: true; the input reads as it did. -/
def orderChainsUptoRow : OpenClaim := { program := "ytjpbdannibmplaa", sum := "1dbc9efc2dc6db4152d804271434ca16a5ed9855e35303e58931ec5295c0586d", func := "syllogist/syllogistlaw.OrderChains", spec := "orderChains", unfollowed := true, recurses := true, apart := false, narrowed := true }
def OrderChainsUptoSaid : Prop := orderChainsUptoRow.holds Try.pinned (OpenSpec.upto orderChainsSpec)

/-- 'syllogistlaw.OrderSplits', WHERE WHAT IT READS IS OF BULK AT MOST 1048576: true; the input reads as it did. -/
def orderSplitsUptoRow : OpenClaim := { program := "ytjpbdannibmplaa", sum := "1dbc9efc2dc6db4152d804271434ca16a5ed9855e35303e58931ec5295c0586d", func := "syllogist/syllogistlaw.OrderSplits", spec := "orderSplits", recurses := true, apart := false, narrowed := true }
def OrderSplitsUptoSaid : Prop := orderSplitsUptoRow.holds Try.pinned (OpenSpec.upto orderSplitsSpec)

/-- 'syllogistlaw.LatticeIs', WHERE WHAT IT READS IS OF BULK AT MOST 1048576: true; the input reads as it did. -/
def latticeIsUptoRow : OpenClaim := { program := "ytjpbdannibmplaa", sum := "1dbc9efc2dc6db4152d804271434ca16a5ed9855e35303e58931ec5295c0586d", func := "syllogist/syllogistlaw.LatticeIs", spec := "latticeIs", apart := false, narrowed := true }
def LatticeIsUptoSaid : Prop := latticeIsUptoRow.holds Try.pinned (OpenSpec.upto latticeIsSpec)

/-- 'syllogistlaw.LatticeJoins', WHERE WHAT IT READS IS OF BULK AT MOST 1048576: true; the input reads as it did. -/
def latticeJoinsUptoRow : OpenClaim := { program := "ytjpbdannibmplaa", sum := "1dbc9efc2dc6db4152d804271434ca16a5ed9855e35303e58931ec5295c0586d", func := "syllogist/syllogistlaw.LatticeJoins", spec := "latticeJoins", unfollowed := true, recurses := true, apart := false, narrowed := true }
def LatticeJoinsUptoSaid : Prop := latticeJoinsUptoRow.holds Try.pinned (OpenSpec.upto latticeJoinsSpec)

/-- 'syllogistlaw.LatticeMeets', WHERE WHAT IT READS IS OF BULK AT MOST 1048576: true; the input reads as it did. -/
def latticeMeetsUptoRow : OpenClaim := { program := "ytjpbdannibmplaa", sum := "1dbc9efc2dc6db4152d804271434ca16a5ed9855e35303e58931ec5295c0586d", func := "syllogist/syllogistlaw.LatticeMeets", spec := "latticeMeets", unfollowed := true, recurses := true, apart := false, narrowed := true }
def LatticeMeetsUptoSaid : Prop := latticeMeetsUptoRow.holds Try.pinned (OpenSpec.upto latticeMeetsSpec)

/-- 'syllogistlaw.LatticeShares', WHERE WHAT IT READS IS OF BULK AT MOST 1048576: true; the input reads as it did. -/
def latticeSharesUptoRow : OpenClaim := { program := "ytjpbdannibmplaa", sum := "1dbc9efc2dc6db4152d804271434ca16a5ed9855e35303e58931ec5295c0586d", func := "syllogist/syllogistlaw.LatticeShares", spec := "latticeShares", apart := false, narrowed := true }
def LatticeSharesUptoSaid : Prop := latticeSharesUptoRow.holds Try.pinned (OpenSpec.upto latticeSharesSpec)

/-- 'syllogistlaw.LatticeModulars', WHERE WHAT IT READS IS OF BULK AT MOST 1048576: true; the input reads as it did. -/
def latticeModularsUptoRow : OpenClaim := { program := "ytjpbdannibmplaa", sum := "1dbc9efc2dc6db4152d804271434ca16a5ed9855e35303e58931ec5295c0586d", func := "syllogist/syllogistlaw.LatticeModulars", spec := "latticeModulars", apart := false, narrowed := true }
def LatticeModularsUptoSaid : Prop := latticeModularsUptoRow.holds Try.pinned (OpenSpec.upto latticeModularsSpec)

/-- 'syllogistlaw.LatticeIrreducibles', WHERE WHAT IT READS IS OF BULK AT MOST 1048576: true; the input reads as it did. -/
def latticeIrreduciblesUptoRow : OpenClaim := { program := "ytjpbdannibmplaa", sum := "1dbc9efc2dc6db4152d804271434ca16a5ed9855e35303e58931ec5295c0586d", func := "syllogist/syllogistlaw.LatticeIrreducibles", spec := "latticeIrreducibles", apart := false, narrowed := true }
def LatticeIrreduciblesUptoSaid : Prop := latticeIrreduciblesUptoRow.holds Try.pinned (OpenSpec.upto latticeIrreduciblesSpec)

end Rows
end Go.Proofs.Ytjpbdannibmplaa
