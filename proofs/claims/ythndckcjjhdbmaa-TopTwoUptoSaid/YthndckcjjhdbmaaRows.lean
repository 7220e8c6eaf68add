/-
  No cell of these rows narrows 'for every input' (looked for: loops, veiled, ifaces, maps, wideKeys, modest, calm, conditions, laid).
  DERIVED. THE GIVEN ROWS OF THIS SEAT. 9 by the template 'for every input the law returns true; each argument reads behind the call as it read before'; 0 by the template 'total and deterministic' (their statements: YthndckcjjhdbmaaTotals.lean).
  GIVEN WITH THE SEED: the statements are not yours to turn. If you find one false, say at which input.
  Laid BY PROGRAM, IN A SANDBOX (cutbox-rows.mjs): the forced cells as the released guide's own fill.sh prints them over the translation f87a116ce33909e4… (all of the seat's roots in one cut). By AI agents, Wed Nov 11 2026. No macro, syntax, notation, axiom, sorry.
-/
import Derived.Test.YthndckcjjhdbmaaChecked
import GoSem.Claim
import GoSem.ClaimJoined
import GoSem.ClaimMapViews
import Derived.JoinedTies
import Derived.KernelRfl
namespace Go.Proofs.Ythndckcjjhdbmaa
/- THE CELL 'sum', in the pinned program and in every row, IS THE sha256 OF THE DUMP (.gsa) THAT YthndckcjjhdbmaaProg.lean LOADS. Nothing in Lean hashes anything: it is a label: what it is worth is what the hold of that sum in a sandbox is worth. -/
noncomputable def Try.pinned : Pinned := { name := "ythndckcjjhdbmaa", sum := "f87a116ce33909e41d00aff0aeeae1713e3f98e1f49880015b62ac2f4e894f1e", checked := Try.checked }
namespace Rows
def none {H : Type} : Left H := { results := [], args := [] }

/-- 'syllogistlaw.PageViews': WHATEVER THE INPUT: true; the input reads as it did. -/
def pageViewsSpec : ChangeSpec := { name := "pageViews", fn := fun _ => fun
  | [d1, d2] => { results := [.lit (.bool true)], args := [d1, d2] }
  | _ => none }
def pageViewsRow : OpenClaim := { program := "ythndckcjjhdbmaa", sum := "f87a116ce33909e41d00aff0aeeae1713e3f98e1f49880015b62ac2f4e894f1e", func := "syllogist/syllogistlaw.PageViews", spec := "pageViews", apart := false }
def PageViewsSaid : Prop := pageViewsRow.holds Try.pinned (OpenSpec.ofChange pageViewsSpec)

/-- ITS FALSE NEIGHBOUR: 'it returns false'. Refute it at one input. -/
def pageViewsWrong : ChangeSpec := { name := "pageViews", fn := fun _ => fun
  | [d1, d2] => { results := [.lit (.bool false)], args := [d1, d2] }
  | _ => none }
def PageViewsWrongFalsely : Prop := pageViewsRow.holds Try.pinned (OpenSpec.ofChange pageViewsWrong)

/-- 'syllogistlaw.PlaceFinds': WHATEVER THE INPUT: true; the input reads as it did. -/
def placeFindsSpec : ChangeSpec := { name := "placeFinds", fn := fun _ => fun
  | [d1, d2, d3] => { results := [.lit (.bool true)], args := [d1, d2, d3] }
  | _ => none }
def placeFindsRow : OpenClaim := { program := "ythndckcjjhdbmaa", sum := "f87a116ce33909e41d00aff0aeeae1713e3f98e1f49880015b62ac2f4e894f1e", func := "syllogist/syllogistlaw.PlaceFinds", spec := "placeFinds", recurses := true, apart := false }
def PlaceFindsSaid : Prop := placeFindsRow.holds Try.pinned (OpenSpec.ofChange placeFindsSpec)

/-- ITS FALSE NEIGHBOUR: 'it returns false'. Refute it at one input. -/
def placeFindsWrong : ChangeSpec := { name := "placeFinds", fn := fun _ => fun
  | [d1, d2, d3] => { results := [.lit (.bool false)], args := [d1, d2, d3] }
  | _ => none }
def PlaceFindsWrongFalsely : Prop := placeFindsRow.holds Try.pinned (OpenSpec.ofChange placeFindsWrong)

/-- 'syllogistlaw.PlacePaths': WHATEVER THE INPUT: true; the input reads as it did. -/
def placePathsSpec : ChangeSpec := { name := "placePaths", fn := fun _ => fun
  | [d1, d2, d3] => { results := [.lit (.bool true)], args := [d1, d2, d3] }
  | _ => none }
def placePathsRow : OpenClaim := { program := "ythndckcjjhdbmaa", sum := "f87a116ce33909e41d00aff0aeeae1713e3f98e1f49880015b62ac2f4e894f1e", func := "syllogist/syllogistlaw.PlacePaths", spec := "placePaths", recurses := true, apart := false }
def PlacePathsSaid : Prop := placePathsRow.holds Try.pinned (OpenSpec.ofChange placePathsSpec)

/-- ITS FALSE NEIGHBOUR: 'it returns false'. Refute it at one input. -/
def placePathsWrong : ChangeSpec := { name := "placePaths", fn := fun _ => fun
  | [d1, d2, d3] => { results := [.lit (.bool false)], args := [d1, d2, d3] }
  | _ => none }
def PlacePathsWrongFalsely : Prop := placePathsRow.holds Try.pinned (OpenSpec.ofChange placePathsWrong)

/-- 'syllogistlaw.PenDoes': WHATEVER THE INPUT: true; the input reads as it did. -/
def penDoesSpec : ChangeSpec := { name := "penDoes", fn := fun _ => fun
  | [d1, d2] => { results := [.lit (.bool true)], args := [d1, d2] }
  | _ => none }
def penDoesRow : OpenClaim := { program := "ythndckcjjhdbmaa", sum := "f87a116ce33909e41d00aff0aeeae1713e3f98e1f49880015b62ac2f4e894f1e", func := "syllogist/syllogistlaw.PenDoes", spec := "penDoes", inPlace := ["slices.overlaps[syllogist/api.Leaf]"], recurses := true, apart := false }
def PenDoesSaid : Prop := penDoesRow.holds Try.pinned (OpenSpec.ofChange penDoesSpec)

/-- ITS FALSE NEIGHBOUR: 'it returns false'. Refute it at one input. -/
def penDoesWrong : ChangeSpec := { name := "penDoes", fn := fun _ => fun
  | [d1, d2] => { results := [.lit (.bool false)], args := [d1, d2] }
  | _ => none }
def PenDoesWrongFalsely : Prop := penDoesRow.holds Try.pinned (OpenSpec.ofChange penDoesWrong)

/-- 'syllogistlaw.HandsPlays': WHATEVER THE INPUT: true; the input reads as it did. -/
def handsPlaysSpec : ChangeSpec := { name := "handsPlays", fn := fun _ => fun
  | [d] => { results := [.lit (.bool true)], args := [d] }
  | _ => none }
def handsPlaysRow : OpenClaim := { program := "ythndckcjjhdbmaa", sum := "f87a116ce33909e41d00aff0aeeae1713e3f98e1f49880015b62ac2f4e894f1e", func := "syllogist/syllogistlaw.HandsPlays", spec := "handsPlays", inPlace := ["slices.overlaps[syllogist/api.Leaf]"], recurses := true, apart := false }
def HandsPlaysSaid : Prop := handsPlaysRow.holds Try.pinned (OpenSpec.ofChange handsPlaysSpec)

/-- ITS FALSE NEIGHBOUR: 'it returns false'. Refute it at one input. -/
def handsPlaysWrong : ChangeSpec := { name := "handsPlays", fn := fun _ => fun
  | [d] => { results := [.lit (.bool false)], args := [d] }
  | _ => none }
def HandsPlaysWrongFalsely : Prop := handsPlaysRow.holds Try.pinned (OpenSpec.ofChange handsPlaysWrong)

/-- 'syllogistlaw.HandsSees': WHATEVER THE INPUT: true; the input reads as it did. -/
def handsSeesSpec : ChangeSpec := { name := "handsSees", fn := fun _ => fun
  | [d1, d2] => { results := [.lit (.bool true)], args := [d1, d2] }
  | _ => none }
def handsSeesRow : OpenClaim := { program := "ythndckcjjhdbmaa", sum := "f87a116ce33909e41d00aff0aeeae1713e3f98e1f49880015b62ac2f4e894f1e", func := "syllogist/syllogistlaw.HandsSees", spec := "handsSees", inPlace := ["slices.overlaps[syllogist/api.Leaf]"], recurses := true, apart := false }
def HandsSeesSaid : Prop := handsSeesRow.holds Try.pinned (OpenSpec.ofChange handsSeesSpec)

/-- ITS FALSE NEIGHBOUR: 'it returns false'. Refute it at one input. -/
def handsSeesWrong : ChangeSpec := { name := "handsSees", fn := fun _ => fun
  | [d1, d2] => { results := [.lit (.bool false)], args := [d1, d2] }
  | _ => none }
def HandsSeesWrongFalsely : Prop := handsSeesRow.holds Try.pinned (OpenSpec.ofChange handsSeesWrong)

/-- 'syllogisttop.TopApart': WHATEVER THE INPUT: true; the input reads as it did. -/
def topApartSpec : ChangeSpec := { name := "topApart", fn := fun _ => fun
  | [d1, d2] => { results := [.lit (.bool true)], args := [d1, d2] }
  | _ => none }
def topApartRow : OpenClaim := { program := "ythndckcjjhdbmaa", sum := "f87a116ce33909e41d00aff0aeeae1713e3f98e1f49880015b62ac2f4e894f1e", func := "syllogist/syllogisttop.TopApart", spec := "topApart", inPlace := ["slices.overlaps[syllogist/api.Leaf]"], apart := false }
def TopApartSaid : Prop := topApartRow.holds Try.pinned (OpenSpec.ofChange topApartSpec)

/-- ITS FALSE NEIGHBOUR: 'it returns false'. Refute it at one input. -/
def topApartWrong : ChangeSpec := { name := "topApart", fn := fun _ => fun
  | [d1, d2] => { results := [.lit (.bool false)], args := [d1, d2] }
  | _ => none }
def TopApartWrongFalsely : Prop := topApartRow.holds Try.pinned (OpenSpec.ofChange topApartWrong)

/-- 'syllogisttop.TopTwo': WHATEVER THE INPUT: true; the input reads as it did. -/
def topTwoSpec : ChangeSpec := { name := "topTwo", fn := fun _ => fun
  | [d1, d2, d3, d4] => { results := [.lit (.bool true)], args := [d1, d2, d3, d4] }
  | _ => none }
def topTwoRow : OpenClaim := { program := "ythndckcjjhdbmaa", sum := "f87a116ce33909e41d00aff0aeeae1713e3f98e1f49880015b62ac2f4e894f1e", func := "syllogist/syllogisttop.TopTwo", spec := "topTwo", inPlace := ["slices.overlaps[syllogist/api.Leaf]"], apart := false }
def TopTwoSaid : Prop := topTwoRow.holds Try.pinned (OpenSpec.ofChange topTwoSpec)

/-- ITS FALSE NEIGHBOUR: 'it returns false'. Refute it at one input. -/
def topTwoWrong : ChangeSpec := { name := "topTwo", fn := fun _ => fun
  | [d1, d2, d3, d4] => { results := [.lit (.bool false)], args := [d1, d2, d3, d4] }
  | _ => none }
def TopTwoWrongFalsely : Prop := topTwoRow.holds Try.pinned (OpenSpec.ofChange topTwoWrong)

/-- 'syllogisttop.TopUnder': WHATEVER THE INPUT: true; the input reads as it did. -/
def topUnderSpec : ChangeSpec := { name := "topUnder", fn := fun _ => fun
  | [d1, d2, d3] => { results := [.lit (.bool true)], args := [d1, d2, d3] }
  | _ => none }
def topUnderRow : OpenClaim := { program := "ythndckcjjhdbmaa", sum := "f87a116ce33909e41d00aff0aeeae1713e3f98e1f49880015b62ac2f4e894f1e", func := "syllogist/syllogisttop.TopUnder", spec := "topUnder", inPlace := ["slices.overlaps[syllogist/api.Leaf]"], apart := false }
def TopUnderSaid : Prop := topUnderRow.holds Try.pinned (OpenSpec.ofChange topUnderSpec)

/-- ITS FALSE NEIGHBOUR: 'it returns false'. Refute it at one input. -/
def topUnderWrong : ChangeSpec := { name := "topUnder", fn := fun _ => fun
  | [d1, d2, d3] => { results := [.lit (.bool false)], args := [d1, d2, d3] }
  | _ => none }
def TopUnderWrongFalsely : Prop := topUnderRow.holds Try.pinned (OpenSpec.ofChange topUnderWrong)

/- THE SECOND FORM. 'bulk': how many values and letters a reading holds, each counted each time it is reached (what is shared counts as often as it is met; a slice's spare places count too). A statement '..UptoSaid' is the law's where the arguments, and the package variables that the reading takes, are together of bulk at most 1048576: NARROWER than '..Said'. Prove '..Said' where nothing that the law and all that it calls make is longer than what came in: it says more and counts as full. Else prove '..UptoSaid'. A law counts once. -/
mutual
def uptoBulk {H : Type} : DataW H → Nat
  | .lit (.string bytes) => bytes.length + 1
  | .lit _ => 1
  | .nil => 1
  | .ptr d => uptoBulk d + 1
  | .slice elems spare => uptoBulkAll elems + uptoBulkAll spare + 1
  | .agg parts => uptoBulkAll parts + 1
  | .iface _ d => uptoBulk d + 1
  | .map entries => uptoBulkEntries entries + 1
  | .held _ => 1
def uptoBulkAll {H : Type} : List (DataW H) → Nat
  | [] => 0
  | d :: r => uptoBulk d + uptoBulkAll r
def uptoBulkEntries {H : Type} : List (Lit × DataW H) → Nat
  | [] => 0
  | x :: r => uptoBulkEntry x + uptoBulkEntries r
def uptoBulkEntry {H : Type} : Lit × DataW H → Nat
  | (.string bytes, d) => bytes.length + uptoBulk d + 1
  | (_, d) => uptoBulk d + 1
 end
def uptoSmall : (H : Type) → List (DataW H) → Bool := fun _ ds => decide (uptoBulkAll ds ≤ 1048576)
def OpenSpec.upto (s : _root_.Go.ChangeSpec) : _root_.Go.OpenSpec := { _root_.Go.OpenSpec.ofChange s with cond := some uptoSmall }

/-- 'syllogistlaw.PageViews', WHERE WHAT IT READS IS OF BULK AT MOST 1048576: true; the input reads as it did. -/
def pageViewsUptoRow : OpenClaim := { program := "ythndckcjjhdbmaa", sum := "f87a116ce33909e41d00aff0aeeae1713e3f98e1f49880015b62ac2f4e894f1e", func := "syllogist/syllogistlaw.PageViews", spec := "pageViews", apart := false, narrowed := true }
def PageViewsUptoSaid : Prop := pageViewsUptoRow.holds Try.pinned (OpenSpec.upto pageViewsSpec)

/-- 'syllogistlaw.PlaceFinds', WHERE WHAT IT READS IS OF BULK AT MOST 1048576: true; the input reads as it did. -/
def placeFindsUptoRow : OpenClaim := { program := "ythndckcjjhdbmaa", sum := "f87a116ce33909e41d00aff0aeeae1713e3f98e1f49880015b62ac2f4e894f1e", func := "syllogist/syllogistlaw.PlaceFinds", spec := "placeFinds", recurses := true, apart := false, narrowed := true }
def PlaceFindsUptoSaid : Prop := placeFindsUptoRow.holds Try.pinned (OpenSpec.upto placeFindsSpec)

/-- 'syllogistlaw.PlacePaths', WHERE WHAT IT READS IS OF BULK AT MOST 1048576: true; the input reads as it did. -/
def placePathsUptoRow : OpenClaim := { program := "ythndckcjjhdbmaa", sum := "f87a116ce33909e41d00aff0aeeae1713e3f98e1f49880015b62ac2f4e894f1e", func := "syllogist/syllogistlaw.PlacePaths", spec := "placePaths", recurses := true, apart := false, narrowed := true }
def PlacePathsUptoSaid : Prop := placePathsUptoRow.holds Try.pinned (OpenSpec.upto placePathsSpec)

/-- 'syllogistlaw.PenDoes', WHERE WHAT IT READS IS OF BULK AT MOST 1048576: true; the input reads as it did. -/
def penDoesUptoRow : OpenClaim := { program := "ythndckcjjhdbmaa", sum := "f87a116ce33909e41d00aff0aeeae1713e3f98e1f49880015b62ac2f4e894f1e", func := "syllogist/syllogistlaw.PenDoes", spec := "penDoes", inPlace := ["slices.overlaps[syllogist/api.Leaf]"], recurses := true, apart := false, narrowed := true }
def PenDoesUptoSaid : Prop := penDoesUptoRow.holds Try.pinned (OpenSpec.upto penDoesSpec)

/-- 'syllogistlaw.HandsPlays', WHERE WHAT IT READS IS OF BULK AT MOST 1048576: true; the input reads as it did. -/
def handsPlaysUptoRow : OpenClaim := { program := "ythndckcjjhdbmaa", sum := "f87a116ce33909e41d00aff0aeeae1713e3f98e1f49880015b62ac2f4e894f1e", func := "syllogist/syllogistlaw.HandsPlays", spec := "handsPlays", inPlace := ["slices.overlaps[syllogist/api.Leaf]"], recurses := true, apart := false, narrowed := true }
def HandsPlaysUptoSaid : Prop := handsPlaysUptoRow.holds Try.pinned (OpenSpec.upto handsPlaysSpec)

/-- 'syllogistlaw.HandsSees', WHERE WHAT IT READS IS OF BULK AT MOST 1048576: true; the input reads as it did. -/
def handsSeesUptoRow : OpenClaim := { program := "ythndckcjjhdbmaa", sum := "f87a116ce33909e41d00aff0aeeae1713e3f98e1f49880015b62ac2f4e894f1e", func := "syllogist/syllogistlaw.HandsSees", spec := "handsSees", inPlace := ["slices.overlaps[syllogist/api.Leaf]"], recurses := true, apart := false, narrowed := true }
def HandsSeesUptoSaid : Prop := handsSeesUptoRow.holds Try.pinned (OpenSpec.upto handsSeesSpec)

/-- 'syllogisttop.TopApart', WHERE WHAT IT READS IS OF BULK AT MOST 1048576: true; the input reads as it did. -/
def topApartUptoRow : OpenClaim := { program := "ythndckcjjhdbmaa", sum := "f87a116ce33909e41d00aff0aeeae1713e3f98e1f49880015b62ac2f4e894f1e", func := "syllogist/syllogisttop.TopApart", spec := "topApart", inPlace := ["slices.overlaps[syllogist/api.Leaf]"], apart := false, narrowed := true }
def TopApartUptoSaid : Prop := topApartUptoRow.holds Try.pinned (OpenSpec.upto topApartSpec)

/-- 'syllogisttop.TopTwo', WHERE WHAT IT READS IS OF BULK AT MOST 1048576: true; the input reads as it did. -/
def topTwoUptoRow : OpenClaim := { program := "ythndckcjjhdbmaa", sum := "f87a116ce33909e41d00aff0aeeae1713e3f98e1f49880015b62ac2f4e894f1e", func := "syllogist/syllogisttop.TopTwo", spec := "topTwo", inPlace := ["slices.overlaps[syllogist/api.Leaf]"], apart := false, narrowed := true }
def TopTwoUptoSaid : Prop := topTwoUptoRow.holds Try.pinned (OpenSpec.upto topTwoSpec)

/-- 'syllogisttop.TopUnder', WHERE WHAT IT READS IS OF BULK AT MOST 1048576: true; the input reads as it did. -/
def topUnderUptoRow : OpenClaim := { program := "ythndckcjjhdbmaa", sum := "f87a116ce33909e41d00aff0aeeae1713e3f98e1f49880015b62ac2f4e894f1e", func := "syllogist/syllogisttop.TopUnder", spec := "topUnder", inPlace := ["slices.overlaps[syllogist/api.Leaf]"], apart := false, narrowed := true }
def TopUnderUptoSaid : Prop := topUnderUptoRow.holds Try.pinned (OpenSpec.upto topUnderSpec)

end Rows
end Go.Proofs.Ythndckcjjhdbmaa
