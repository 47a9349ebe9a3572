/-
  No cell of these rows narrows 'for every input' (looked for: loops, veiled, ifaces, maps, wideKeys, modest, calm, conditions, laid).
  DERIVED. THE GIVEN ROWS OF THIS SEAT. 12 by the template 'for every input the law returns true; each argument reads behind the call as it read before'; 0 by the template 'total and deterministic' (their statements: YtkfhcljiifpckaaTotals.lean).
  GIVEN WITH THE SEED: the statements are not yours to turn. If you find one false, say at which input.
  Laid BY PROGRAM, IN A SANDBOX (cutbox-rows.mjs): the forced cells as the released guide's own fill.sh prints them over the translation 067d4da1bb460471… (all of the seat's roots in one cut). By AI agents, Wed Nov 11 2026. No macro, syntax, notation, axiom, sorry.
-/
import Derived.Test.YtkfhcljiifpckaaChecked
import GoSem.Claim
import GoSem.ClaimJoined
import GoSem.ClaimMapViews
import Derived.JoinedTies
import Derived.KernelRfl
namespace Go.Proofs.Ytkfhcljiifpckaa
/- THE CELL 'sum', in the pinned program and in every row, IS THE sha256 OF THE DUMP (.gsa) THAT YtkfhcljiifpckaaProg.lean LOADS. Nothing in Lean hashes anything: it is a label: what it is worth is what the hold of that sum in a sandbox is worth. -/
noncomputable def Try.pinned : Pinned := { name := "ytkfhcljiifpckaa", sum := "067d4da1bb4604713230449f6acbe87e406cfb80489ab7a684cccb1431acaf4a", checked := Try.checked }
namespace Rows
def none {H : Type} : Left H := { results := [], args := [] }

/-- 'laws.FnExactCountParking': WHATEVER THE INPUT: true; the input reads as it did. -/
def fnExactCountParkingSpec : ChangeSpec := { name := "fnExactCountParking", fn := fun _ => fun
  | [d] => { results := [.lit (.bool true)], args := [d] }
  | _ => none }
def fnExactCountParkingRow : OpenClaim := { program := "ytkfhcljiifpckaa", sum := "067d4da1bb4604713230449f6acbe87e406cfb80489ab7a684cccb1431acaf4a", func := "loop.example/g03401/laws.FnExactCountParking", spec := "fnExactCountParking", apart := false }
def FnExactCountParkingSaid : Prop := fnExactCountParkingRow.holds Try.pinned (OpenSpec.ofChange fnExactCountParkingSpec)

/-- ITS FALSE NEIGHBOUR: 'it returns false'. Refute it at one input. -/
def fnExactCountParkingWrong : ChangeSpec := { name := "fnExactCountParking", fn := fun _ => fun
  | [d] => { results := [.lit (.bool false)], args := [d] }
  | _ => none }
def FnExactCountParkingWrongFalsely : Prop := fnExactCountParkingRow.holds Try.pinned (OpenSpec.ofChange fnExactCountParkingWrong)

/-- 'laws.FnExactIsMatching': WHATEVER THE INPUT: true; the input reads as it did. -/
def fnExactIsMatchingSpec : ChangeSpec := { name := "fnExactIsMatching", fn := fun _ => fun
  | [d] => { results := [.lit (.bool true)], args := [d] }
  | _ => none }
def fnExactIsMatchingRow : OpenClaim := { program := "ytkfhcljiifpckaa", sum := "067d4da1bb4604713230449f6acbe87e406cfb80489ab7a684cccb1431acaf4a", func := "loop.example/g03401/laws.FnExactIsMatching", spec := "fnExactIsMatching", apart := false }
def FnExactIsMatchingSaid : Prop := fnExactIsMatchingRow.holds Try.pinned (OpenSpec.ofChange fnExactIsMatchingSpec)

/-- ITS FALSE NEIGHBOUR: 'it returns false'. Refute it at one input. -/
def fnExactIsMatchingWrong : ChangeSpec := { name := "fnExactIsMatching", fn := fun _ => fun
  | [d] => { results := [.lit (.bool false)], args := [d] }
  | _ => none }
def FnExactIsMatchingWrongFalsely : Prop := fnExactIsMatchingRow.holds Try.pinned (OpenSpec.ofChange fnExactIsMatchingWrong)

/-- 'laws.FnExactStatisticNames': WHATEVER THE INPUT: true; the input reads as it did. -/
def fnExactStatisticNamesSpec : ChangeSpec := { name := "fnExactStatisticNames", fn := fun _ => fun
  | [] => { results := [.lit (.bool true)], args := [] }
  | _ => none }
def fnExactStatisticNamesRow : OpenClaim := { program := "ytkfhcljiifpckaa", sum := "067d4da1bb4604713230449f6acbe87e406cfb80489ab7a684cccb1431acaf4a", func := "loop.example/g03401/laws.FnExactStatisticNames", spec := "fnExactStatisticNames", apart := false }
def FnExactStatisticNamesSaid : Prop := fnExactStatisticNamesRow.holds Try.pinned (OpenSpec.ofChange fnExactStatisticNamesSpec)

/-- ITS FALSE NEIGHBOUR: 'it returns false'. Refute it at one input. -/
def fnExactStatisticNamesWrong : ChangeSpec := { name := "fnExactStatisticNames", fn := fun _ => fun
  | [] => { results := [.lit (.bool false)], args := [] }
  | _ => none }
def FnExactStatisticNamesWrongFalsely : Prop := fnExactStatisticNamesRow.holds Try.pinned (OpenSpec.ofChange fnExactStatisticNamesWrong)

/-- 'laws.FnExactIsPartition': WHATEVER THE INPUT: true; the input reads as it did. -/
def fnExactIsPartitionSpec : ChangeSpec := { name := "fnExactIsPartition", fn := fun _ => fun
  | [d] => { results := [.lit (.bool true)], args := [d] }
  | _ => none }
def fnExactIsPartitionRow : OpenClaim := { program := "ytkfhcljiifpckaa", sum := "067d4da1bb4604713230449f6acbe87e406cfb80489ab7a684cccb1431acaf4a", func := "loop.example/g03401/laws.FnExactIsPartition", spec := "fnExactIsPartition", apart := false }
def FnExactIsPartitionSaid : Prop := fnExactIsPartitionRow.holds Try.pinned (OpenSpec.ofChange fnExactIsPartitionSpec)

/-- ITS FALSE NEIGHBOUR: 'it returns false'. Refute it at one input. -/
def fnExactIsPartitionWrong : ChangeSpec := { name := "fnExactIsPartition", fn := fun _ => fun
  | [d] => { results := [.lit (.bool false)], args := [d] }
  | _ => none }
def FnExactIsPartitionWrongFalsely : Prop := fnExactIsPartitionRow.holds Try.pinned (OpenSpec.ofChange fnExactIsPartitionWrong)

/-- 'laws.FnExactIsPermutation': WHATEVER THE INPUT: true; the input reads as it did. -/
def fnExactIsPermutationSpec : ChangeSpec := { name := "fnExactIsPermutation", fn := fun _ => fun
  | [d] => { results := [.lit (.bool true)], args := [d] }
  | _ => none }
def fnExactIsPermutationRow : OpenClaim := { program := "ytkfhcljiifpckaa", sum := "067d4da1bb4604713230449f6acbe87e406cfb80489ab7a684cccb1431acaf4a", func := "loop.example/g03401/laws.FnExactIsPermutation", spec := "fnExactIsPermutation", apart := false }
def FnExactIsPermutationSaid : Prop := fnExactIsPermutationRow.holds Try.pinned (OpenSpec.ofChange fnExactIsPermutationSpec)

/-- ITS FALSE NEIGHBOUR: 'it returns false'. Refute it at one input. -/
def fnExactIsPermutationWrong : ChangeSpec := { name := "fnExactIsPermutation", fn := fun _ => fun
  | [d] => { results := [.lit (.bool false)], args := [d] }
  | _ => none }
def FnExactIsPermutationWrongFalsely : Prop := fnExactIsPermutationRow.holds Try.pinned (OpenSpec.ofChange fnExactIsPermutationWrong)

/-- 'laws.FnExactMajorOf': WHATEVER THE INPUT: true; the input reads as it did. -/
def fnExactMajorOfSpec : ChangeSpec := { name := "fnExactMajorOf", fn := fun _ => fun
  | [d] => { results := [.lit (.bool true)], args := [d] }
  | _ => none }
def fnExactMajorOfRow : OpenClaim := { program := "ytkfhcljiifpckaa", sum := "067d4da1bb4604713230449f6acbe87e406cfb80489ab7a684cccb1431acaf4a", func := "loop.example/g03401/laws.FnExactMajorOf", spec := "fnExactMajorOf", apart := false }
def FnExactMajorOfSaid : Prop := fnExactMajorOfRow.holds Try.pinned (OpenSpec.ofChange fnExactMajorOfSpec)

/-- ITS FALSE NEIGHBOUR: 'it returns false'. Refute it at one input. -/
def fnExactMajorOfWrong : ChangeSpec := { name := "fnExactMajorOf", fn := fun _ => fun
  | [d] => { results := [.lit (.bool false)], args := [d] }
  | _ => none }
def FnExactMajorOfWrongFalsely : Prop := fnExactMajorOfRow.holds Try.pinned (OpenSpec.ofChange fnExactMajorOfWrong)

/-- 'laws.FnExactDescentsOf': WHATEVER THE INPUT: true; the input reads as it did. -/
def fnExactDescentsOfSpec : ChangeSpec := { name := "fnExactDescentsOf", fn := fun _ => fun
  | [d] => { results := [.lit (.bool true)], args := [d] }
  | _ => none }
def fnExactDescentsOfRow : OpenClaim := { program := "ytkfhcljiifpckaa", sum := "067d4da1bb4604713230449f6acbe87e406cfb80489ab7a684cccb1431acaf4a", func := "loop.example/g03401/laws.FnExactDescentsOf", spec := "fnExactDescentsOf", apart := false }
def FnExactDescentsOfSaid : Prop := fnExactDescentsOfRow.holds Try.pinned (OpenSpec.ofChange fnExactDescentsOfSpec)

/-- ITS FALSE NEIGHBOUR: 'it returns false'. Refute it at one input. -/
def fnExactDescentsOfWrong : ChangeSpec := { name := "fnExactDescentsOf", fn := fun _ => fun
  | [d] => { results := [.lit (.bool false)], args := [d] }
  | _ => none }
def FnExactDescentsOfWrongFalsely : Prop := fnExactDescentsOfRow.holds Try.pinned (OpenSpec.ofChange fnExactDescentsOfWrong)

/-- 'laws.FnExactInversionsOf': WHATEVER THE INPUT: true; the input reads as it did. -/
def fnExactInversionsOfSpec : ChangeSpec := { name := "fnExactInversionsOf", fn := fun _ => fun
  | [d] => { results := [.lit (.bool true)], args := [d] }
  | _ => none }
def fnExactInversionsOfRow : OpenClaim := { program := "ytkfhcljiifpckaa", sum := "067d4da1bb4604713230449f6acbe87e406cfb80489ab7a684cccb1431acaf4a", func := "loop.example/g03401/laws.FnExactInversionsOf", spec := "fnExactInversionsOf", apart := false }
def FnExactInversionsOfSaid : Prop := fnExactInversionsOfRow.holds Try.pinned (OpenSpec.ofChange fnExactInversionsOfSpec)

/-- ITS FALSE NEIGHBOUR: 'it returns false'. Refute it at one input. -/
def fnExactInversionsOfWrong : ChangeSpec := { name := "fnExactInversionsOf", fn := fun _ => fun
  | [d] => { results := [.lit (.bool false)], args := [d] }
  | _ => none }
def FnExactInversionsOfWrongFalsely : Prop := fnExactInversionsOfRow.holds Try.pinned (OpenSpec.ofChange fnExactInversionsOfWrong)

/-- 'laws.FnExactCrossingsOf': WHATEVER THE INPUT: true; the input reads as it did. -/
def fnExactCrossingsOfSpec : ChangeSpec := { name := "fnExactCrossingsOf", fn := fun _ => fun
  | [d] => { results := [.lit (.bool true)], args := [d] }
  | _ => none }
def fnExactCrossingsOfRow : OpenClaim := { program := "ytkfhcljiifpckaa", sum := "067d4da1bb4604713230449f6acbe87e406cfb80489ab7a684cccb1431acaf4a", func := "loop.example/g03401/laws.FnExactCrossingsOf", spec := "fnExactCrossingsOf", apart := false }
def FnExactCrossingsOfSaid : Prop := fnExactCrossingsOfRow.holds Try.pinned (OpenSpec.ofChange fnExactCrossingsOfSpec)

/-- ITS FALSE NEIGHBOUR: 'it returns false'. Refute it at one input. -/
def fnExactCrossingsOfWrong : ChangeSpec := { name := "fnExactCrossingsOf", fn := fun _ => fun
  | [d] => { results := [.lit (.bool false)], args := [d] }
  | _ => none }
def FnExactCrossingsOfWrongFalsely : Prop := fnExactCrossingsOfRow.holds Try.pinned (OpenSpec.ofChange fnExactCrossingsOfWrong)

/-- 'laws.FnExactNestingsOf': WHATEVER THE INPUT: true; the input reads as it did. -/
def fnExactNestingsOfSpec : ChangeSpec := { name := "fnExactNestingsOf", fn := fun _ => fun
  | [d] => { results := [.lit (.bool true)], args := [d] }
  | _ => none }
def fnExactNestingsOfRow : OpenClaim := { program := "ytkfhcljiifpckaa", sum := "067d4da1bb4604713230449f6acbe87e406cfb80489ab7a684cccb1431acaf4a", func := "loop.example/g03401/laws.FnExactNestingsOf", spec := "fnExactNestingsOf", apart := false }
def FnExactNestingsOfSaid : Prop := fnExactNestingsOfRow.holds Try.pinned (OpenSpec.ofChange fnExactNestingsOfSpec)

/-- ITS FALSE NEIGHBOUR: 'it returns false'. Refute it at one input. -/
def fnExactNestingsOfWrong : ChangeSpec := { name := "fnExactNestingsOf", fn := fun _ => fun
  | [d] => { results := [.lit (.bool false)], args := [d] }
  | _ => none }
def FnExactNestingsOfWrongFalsely : Prop := fnExactNestingsOfRow.holds Try.pinned (OpenSpec.ofChange fnExactNestingsOfWrong)

/-- 'laws.FnExactIsNoncrossing': WHATEVER THE INPUT: true; the input reads as it did. -/
def fnExactIsNoncrossingSpec : ChangeSpec := { name := "fnExactIsNoncrossing", fn := fun _ => fun
  | [d] => { results := [.lit (.bool true)], args := [d] }
  | _ => none }
def fnExactIsNoncrossingRow : OpenClaim := { program := "ytkfhcljiifpckaa", sum := "067d4da1bb4604713230449f6acbe87e406cfb80489ab7a684cccb1431acaf4a", func := "loop.example/g03401/laws.FnExactIsNoncrossing", spec := "fnExactIsNoncrossing", apart := false }
def FnExactIsNoncrossingSaid : Prop := fnExactIsNoncrossingRow.holds Try.pinned (OpenSpec.ofChange fnExactIsNoncrossingSpec)

/-- ITS FALSE NEIGHBOUR: 'it returns false'. Refute it at one input. -/
def fnExactIsNoncrossingWrong : ChangeSpec := { name := "fnExactIsNoncrossing", fn := fun _ => fun
  | [d] => { results := [.lit (.bool false)], args := [d] }
  | _ => none }
def FnExactIsNoncrossingWrongFalsely : Prop := fnExactIsNoncrossingRow.holds Try.pinned (OpenSpec.ofChange fnExactIsNoncrossingWrong)

/-- 'laws.FnExactContains231': WHATEVER THE INPUT: true; the input reads as it did. -/
def fnExactContains231Spec : ChangeSpec := { name := "fnExactContains231", fn := fun _ => fun
  | [d] => { results := [.lit (.bool true)], args := [d] }
  | _ => none }
def fnExactContains231Row : OpenClaim := { program := "ytkfhcljiifpckaa", sum := "067d4da1bb4604713230449f6acbe87e406cfb80489ab7a684cccb1431acaf4a", func := "loop.example/g03401/laws.FnExactContains231", spec := "fnExactContains231", unfollowed := true, recurses := true, apart := false }
def FnExactContains231Said : Prop := fnExactContains231Row.holds Try.pinned (OpenSpec.ofChange fnExactContains231Spec)

/-- ITS FALSE NEIGHBOUR: 'it returns false'. Refute it at one input. -/
def fnExactContains231Wrong : ChangeSpec := { name := "fnExactContains231", fn := fun _ => fun
  | [d] => { results := [.lit (.bool false)], args := [d] }
  | _ => none }
def FnExactContains231WrongFalsely : Prop := fnExactContains231Row.holds Try.pinned (OpenSpec.ofChange fnExactContains231Wrong)

/- THE SECOND FORM. 'bulk': how many values and letters a reading holds, each counted each time it is reached (what is shared counts as often as it is met; a slice's spare places count too). A statement '..UptoSaid' is the law's where the arguments, and the package variables that the reading takes, are together of bulk at most 1048576: NARROWER than '..Said'. Prove '..Said' where nothing that the law and all that it calls make is longer than what came in: it says more and counts as full. Else prove '..UptoSaid'. A law counts once. -/
mutual
def uptoBulk {H : Type} : DataW H → Nat
  | .lit (.string bytes) => bytes.length + 1
  | .lit _ => 1
  | .nil => 1
  | .ptr d => uptoBulk d + 1
  | .slice elems spare => uptoBulkAll elems + uptoBulkAll spare + 1
  | .agg parts => uptoBulkAll parts + 1
  | .iface _ d => uptoBulk d + 1
  | .map entries => uptoBulkEntries entries + 1
  | .held _ => 1
def uptoBulkAll {H : Type} : List (DataW H) → Nat
  | [] => 0
  | d :: r => uptoBulk d + uptoBulkAll r
def uptoBulkEntries {H : Type} : List (Lit × DataW H) → Nat
  | [] => 0
  | x :: r => uptoBulkEntry x + uptoBulkEntries r
def uptoBulkEntry {H : Type} : Lit × DataW H → Nat
  | (.string bytes, d) => bytes.length + uptoBulk d + 1
  | (_, d) => uptoBulk d + 1
 end
def uptoSmall : (H : Type) → List (DataW H) → Bool := fun _ ds => decide (uptoBulkAll ds ≤ 1048576)
def OpenSpec.upto (s : _root_.Go.ChangeSpec) : _root_.Go.OpenSpec := { _root_.Go.OpenSpec.ofChange s with cond := some uptoSmall }

/-- 'laws.FnExactCountParking', WHERE WHAT IT READS IS OF BULK AT MOST 1048576: true; the input reads as it did. -/
def fnExactCountParkingUptoRow : OpenClaim := { program := "ytkfhcljiifpckaa", sum := "067d4da1bb4604713230449f6acbe87e406cfb80489ab7a684cccb1431acaf4a", func := "loop.example/g03401/laws.FnExactCountParking", spec := "fnExactCountParking", apart := false, narrowed := true }
def FnExactCountParkingUptoSaid : Prop := fnExactCountParkingUptoRow.holds Try.pinned (OpenSpec.upto fnExactCountParkingSpec)

/-- 'laws.FnExactIsMatching', WHERE WHAT IT READS IS OF BULK AT MOST 1048576: true; the input reads as it did. -/
def fnExactIsMatchingUptoRow : OpenClaim := { program := "ytkfhcljiifpckaa", sum := "067d4da1bb4604713230449f6acbe87e406cfb80489ab7a684cccb1431acaf4a", func := "loop.example/g03401/laws.FnExactIsMatching", spec := "fnExactIsMatching", apart := false, narrowed := true }
def FnExactIsMatchingUptoSaid : Prop := fnExactIsMatchingUptoRow.holds Try.pinned (OpenSpec.upto fnExactIsMatchingSpec)

/-- 'laws.FnExactStatisticNames', WHERE WHAT IT READS IS OF BULK AT MOST 1048576: true; the input reads as it did. -/
def fnExactStatisticNamesUptoRow : OpenClaim := { program := "ytkfhcljiifpckaa", sum := "067d4da1bb4604713230449f6acbe87e406cfb80489ab7a684cccb1431acaf4a", func := "loop.example/g03401/laws.FnExactStatisticNames", spec := "fnExactStatisticNames", apart := false, narrowed := true }
def FnExactStatisticNamesUptoSaid : Prop := fnExactStatisticNamesUptoRow.holds Try.pinned (OpenSpec.upto fnExactStatisticNamesSpec)

/-- 'laws.FnExactIsPartition', WHERE WHAT IT READS IS OF BULK AT MOST 1048576: true; the input reads as it did. -/
def fnExactIsPartitionUptoRow : OpenClaim := { program := "ytkfhcljiifpckaa", sum := "067d4da1bb4604713230449f6acbe87e406cfb80489ab7a684cccb1431acaf4a", func := "loop.example/g03401/laws.FnExactIsPartition", spec := "fnExactIsPartition", apart := false, narrowed := true }
def FnExactIsPartitionUptoSaid : Prop := fnExactIsPartitionUptoRow.holds Try.pinned (OpenSpec.upto fnExactIsPartitionSpec)

/-- 'laws.FnExactIsPermutation', WHERE WHAT IT READS IS OF BULK AT MOST 1048576: true; the input reads as it did. -/
def fnExactIsPermutationUptoRow : OpenClaim := { program := "ytkfhcljiifpckaa", sum := "067d4da1bb4604713230449f6acbe87e406cfb80489ab7a684cccb1431acaf4a", func := "loop.example/g03401/laws.FnExactIsPermutation", spec := "fnExactIsPermutation", apart := false, narrowed := true }
def FnExactIsPermutationUptoSaid : Prop := fnExactIsPermutationUptoRow.holds Try.pinned (OpenSpec.upto fnExactIsPermutationSpec)

/-- 'laws.FnExactMajorOf', WHERE WHAT IT READS IS OF BULK AT MOST 1048576: true; the input reads as it did. -/
def fnExactMajorOfUptoRow : OpenClaim := { program := "ytkfhcljiifpckaa", sum := "067d4da1bb4604713230449f6acbe87e406cfb80489ab7a684cccb1431acaf4a", func := "loop.example/g03401/laws.FnExactMajorOf", spec := "fnExactMajorOf", apart := false, narrowed := true }
def FnExactMajorOfUptoSaid : Prop := fnExactMajorOfUptoRow.holds Try.pinned (OpenSpec.upto fnExactMajorOfSpec)

/-- 'laws.FnExactDescentsOf', WHERE WHAT IT READS IS OF BULK AT MOST 1048576: true; the input reads as it did. -/
def fnExactDescentsOfUptoRow : OpenClaim := { program := "ytkfhcljiifpckaa", sum := "067d4da1bb4604713230449f6acbe87e406cfb80489ab7a684cccb1431acaf4a", func := "loop.example/g03401/laws.FnExactDescentsOf", spec := "fnExactDescentsOf", apart := false, narrowed := true }
def FnExactDescentsOfUptoSaid : Prop := fnExactDescentsOfUptoRow.holds Try.pinned (OpenSpec.upto fnExactDescentsOfSpec)

/-- 'laws.FnExactInversionsOf', WHERE WHAT IT READS IS OF BULK AT MOST 1048576: true; the input reads as it did. -/
def fnExactInversionsOfUptoRow : OpenClaim := { program := "ytkfhcljiifpckaa", sum := "067d4da1bb4604713230449f6acbe87e406cfb80489ab7a684cccb1431acaf4a", func := "loop.example/g03401/laws.FnExactInversionsOf", spec := "fnExactInversionsOf", apart := false, narrowed := true }
def FnExactInversionsOfUptoSaid : Prop := fnExactInversionsOfUptoRow.holds Try.pinned (OpenSpec.upto fnExactInversionsOfSpec)

/-- 'laws.FnExactCrossingsOf', WHERE WHAT IT READS IS OF BULK AT MOST 1048576: true; the input reads as it did. -/
def fnExactCrossingsOfUptoRow : OpenClaim := { program := "ytkfhcljiifpckaa", sum := "067d4da1bb4604713230449f6acbe87e406cfb80489ab7a684cccb1431acaf4a", func := "loop.example/g03401/laws.FnExactCrossingsOf", spec := "fnExactCrossingsOf", apart := false, narrowed := true }
def FnExactCrossingsOfUptoSaid : Prop := fnExactCrossingsOfUptoRow.holds Try.pinned (OpenSpec.upto fnExactCrossingsOfSpec)

/-- 'laws.FnExactNestingsOf', WHERE WHAT IT READS IS OF BULK AT MOST 1048576: true; the input reads as it did. -/
def fnExactNestingsOfUptoRow : OpenClaim := { program := "ytkfhcljiifpckaa", sum := "067d4da1bb4604713230449f6acbe87e406cfb80489ab7a684cccb1431acaf4a", func := "loop.example/g03401/laws.FnExactNestingsOf", spec := "fnExactNestingsOf", apart := false, narrowed := true }
def FnExactNestingsOfUptoSaid : Prop := fnExactNestingsOfUptoRow.holds Try.pinned (OpenSpec.upto fnExactNestingsOfSpec)

/-- 'laws.FnExactIsNoncrossing', WHERE WHAT IT READS IS OF BULK AT MOST 1048576: true; the input reads as it did. -/
def fnExactIsNoncrossingUptoRow : OpenClaim := { program := "ytkfhcljiifpckaa", sum := "067d4da1bb4604713230449f6acbe87e406cfb80489ab7a684cccb1431acaf4a", func := "loop.example/g03401/laws.FnExactIsNoncrossing", spec := "fnExactIsNoncrossing", apart := false, narrowed := true }
def FnExactIsNoncrossingUptoSaid : Prop := fnExactIsNoncrossingUptoRow.holds Try.pinned (OpenSpec.upto fnExactIsNoncrossingSpec)

/-- 'laws.FnExactContains231', WHERE WHAT IT READS IS OF BULK AT MOST 1048576: true; the input reads as it did. -/
def fnExactContains231UptoRow : OpenClaim := { program := "ytkfhcljiifpckaa", sum := "067d4da1bb4604713230449f6acbe87e406cfb80489ab7a684cccb1431acaf4a", func := "loop.example/g03401/laws.FnExactContains231", spec := "fnExactContains231", unfollowed := true, recurses := true, apart := false, narrowed := true }
def FnExactContains231UptoSaid : Prop := fnExactContains231UptoRow.holds Try.pinned (OpenSpec.upto fnExactContains231Spec)

end Rows
end Go.Proofs.Ytkfhcljiifpckaa
