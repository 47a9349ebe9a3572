/-
  No cell of these rows narrows 'for every input' (looked for: loops, veiled, ifaces, maps, wideKeys, modest, calm, conditions, laid).
  DERIVED. THE GIVEN ROWS OF THIS SEAT. 12 by the template 'for every input the law returns true; each argument reads behind the call as it read before'; 0 by the template 'total and deterministic' (their statements: YtdjickibifcelaaTotals.lean).
  GIVEN WITH THE SEED: the statements are not yours to turn. If you find one false, say at which input.
  Laid BY PROGRAM, IN A SANDBOX (cutbox-rows.mjs): the forced cells as the released guide's own fill.sh prints them over the translation 03f680338bf73390… (all of the seat's roots in one cut). By AI agents, Wed Nov 11 2026. No macro, syntax, notation, axiom, sorry.
-/
import Derived.Test.YtdjickibifcelaaChecked
import GoSem.Claim
import GoSem.ClaimJoined
import GoSem.ClaimMapViews
import Derived.JoinedTies
import Derived.KernelRfl
namespace Go.Proofs.Ytdjickibifcelaa
/- THE CELL 'sum', in the pinned program and in every row, IS THE sha256 OF THE DUMP (.gsa) THAT YtdjickibifcelaaProg.lean LOADS. Nothing in Lean hashes anything: it is a label: what it is worth is what the hold of that sum in a sandbox is worth. -/
noncomputable def Try.pinned : Pinned := { name := "ytdjickibifcelaa", sum := "03f680338bf733901024589f4d020a8c5ad95e148f4c7d0e214f9a0c3e01167e", checked := Try.checked }
namespace Rows
def none {H : Type} : Left H := { results := [], args := [] }

/-- 'laws.FnExactMatchingOfPartition': WHATEVER THE INPUT: true; the input reads as it did. -/
def fnExactMatchingOfPartitionSpec : ChangeSpec := { name := "fnExactMatchingOfPartition", fn := fun _ => fun
  | [d] => { results := [.lit (.bool true)], args := [d] }
  | _ => none }
def fnExactMatchingOfPartitionRow : OpenClaim := { program := "ytdjickibifcelaa", sum := "03f680338bf733901024589f4d020a8c5ad95e148f4c7d0e214f9a0c3e01167e", func := "loop.example/g03401/laws.FnExactMatchingOfPartition", spec := "fnExactMatchingOfPartition", apart := false }
def FnExactMatchingOfPartitionSaid : Prop := fnExactMatchingOfPartitionRow.holds Try.pinned (OpenSpec.ofChange fnExactMatchingOfPartitionSpec)

/-- ITS FALSE NEIGHBOUR: 'it returns false'. Refute it at one input. -/
def fnExactMatchingOfPartitionWrong : ChangeSpec := { name := "fnExactMatchingOfPartition", fn := fun _ => fun
  | [d] => { results := [.lit (.bool false)], args := [d] }
  | _ => none }
def FnExactMatchingOfPartitionWrongFalsely : Prop := fnExactMatchingOfPartitionRow.holds Try.pinned (OpenSpec.ofChange fnExactMatchingOfPartitionWrong)

/-- 'laws.FnExactPartitionOf': WHATEVER THE INPUT: true; the input reads as it did. -/
def fnExactPartitionOfSpec : ChangeSpec := { name := "fnExactPartitionOf", fn := fun _ => fun
  | [d] => { results := [.lit (.bool true)], args := [d] }
  | _ => none }
def fnExactPartitionOfRow : OpenClaim := { program := "ytdjickibifcelaa", sum := "03f680338bf733901024589f4d020a8c5ad95e148f4c7d0e214f9a0c3e01167e", func := "loop.example/g03401/laws.FnExactPartitionOf", spec := "fnExactPartitionOf", apart := false }
def FnExactPartitionOfSaid : Prop := fnExactPartitionOfRow.holds Try.pinned (OpenSpec.ofChange fnExactPartitionOfSpec)

/-- ITS FALSE NEIGHBOUR: 'it returns false'. Refute it at one input. -/
def fnExactPartitionOfWrong : ChangeSpec := { name := "fnExactPartitionOf", fn := fun _ => fun
  | [d] => { results := [.lit (.bool false)], args := [d] }
  | _ => none }
def FnExactPartitionOfWrongFalsely : Prop := fnExactPartitionOfRow.holds Try.pinned (OpenSpec.ofChange fnExactPartitionOfWrong)

/-- 'laws.FnExactDescentsOfTableau': WHATEVER THE INPUT: true; the input reads as it did. -/
def fnExactDescentsOfTableauSpec : ChangeSpec := { name := "fnExactDescentsOfTableau", fn := fun _ => fun
  | [d] => { results := [.lit (.bool true)], args := [d] }
  | _ => none }
def fnExactDescentsOfTableauRow : OpenClaim := { program := "ytdjickibifcelaa", sum := "03f680338bf733901024589f4d020a8c5ad95e148f4c7d0e214f9a0c3e01167e", func := "loop.example/g03401/laws.FnExactDescentsOfTableau", spec := "fnExactDescentsOfTableau", apart := false }
def FnExactDescentsOfTableauSaid : Prop := fnExactDescentsOfTableauRow.holds Try.pinned (OpenSpec.ofChange fnExactDescentsOfTableauSpec)

/-- ITS FALSE NEIGHBOUR: 'it returns false'. Refute it at one input. -/
def fnExactDescentsOfTableauWrong : ChangeSpec := { name := "fnExactDescentsOfTableau", fn := fun _ => fun
  | [d] => { results := [.lit (.bool false)], args := [d] }
  | _ => none }
def FnExactDescentsOfTableauWrongFalsely : Prop := fnExactDescentsOfTableauRow.holds Try.pinned (OpenSpec.ofChange fnExactDescentsOfTableauWrong)

/-- 'laws.FnExactAvoiders': WHATEVER THE INPUT: true; the input reads as it did. -/
def fnExactAvoidersSpec : ChangeSpec := { name := "fnExactAvoiders", fn := fun _ => fun
  | [d1, d2] => { results := [.lit (.bool true)], args := [d1, d2] }
  | _ => none }
def fnExactAvoidersRow : OpenClaim := { program := "ytdjickibifcelaa", sum := "03f680338bf733901024589f4d020a8c5ad95e148f4c7d0e214f9a0c3e01167e", func := "loop.example/g03401/laws.FnExactAvoiders", spec := "fnExactAvoiders", unfollowed := true, recurses := true, apart := false }
def FnExactAvoidersSaid : Prop := fnExactAvoidersRow.holds Try.pinned (OpenSpec.ofChange fnExactAvoidersSpec)

/-- ITS FALSE NEIGHBOUR: 'it returns false'. Refute it at one input. -/
def fnExactAvoidersWrong : ChangeSpec := { name := "fnExactAvoiders", fn := fun _ => fun
  | [d1, d2] => { results := [.lit (.bool false)], args := [d1, d2] }
  | _ => none }
def FnExactAvoidersWrongFalsely : Prop := fnExactAvoidersRow.holds Try.pinned (OpenSpec.ofChange fnExactAvoidersWrong)

/-- 'laws.FnExactPromoteTableau': WHATEVER THE INPUT: true; the input reads as it did. -/
def fnExactPromoteTableauSpec : ChangeSpec := { name := "fnExactPromoteTableau", fn := fun _ => fun
  | [d] => { results := [.lit (.bool true)], args := [d] }
  | _ => none }
def fnExactPromoteTableauRow : OpenClaim := { program := "ytdjickibifcelaa", sum := "03f680338bf733901024589f4d020a8c5ad95e148f4c7d0e214f9a0c3e01167e", func := "loop.example/g03401/laws.FnExactPromoteTableau", spec := "fnExactPromoteTableau", apart := false }
def FnExactPromoteTableauSaid : Prop := fnExactPromoteTableauRow.holds Try.pinned (OpenSpec.ofChange fnExactPromoteTableauSpec)

/-- ITS FALSE NEIGHBOUR: 'it returns false'. Refute it at one input. -/
def fnExactPromoteTableauWrong : ChangeSpec := { name := "fnExactPromoteTableau", fn := fun _ => fun
  | [d] => { results := [.lit (.bool false)], args := [d] }
  | _ => none }
def FnExactPromoteTableauWrongFalsely : Prop := fnExactPromoteTableauRow.holds Try.pinned (OpenSpec.ofChange fnExactPromoteTableauWrong)

/-- 'laws.FnExactEvacuateTableau': WHATEVER THE INPUT: true; the input reads as it did. -/
def fnExactEvacuateTableauSpec : ChangeSpec := { name := "fnExactEvacuateTableau", fn := fun _ => fun
  | [d] => { results := [.lit (.bool true)], args := [d] }
  | _ => none }
def fnExactEvacuateTableauRow : OpenClaim := { program := "ytdjickibifcelaa", sum := "03f680338bf733901024589f4d020a8c5ad95e148f4c7d0e214f9a0c3e01167e", func := "loop.example/g03401/laws.FnExactEvacuateTableau", spec := "fnExactEvacuateTableau", apart := false }
def FnExactEvacuateTableauSaid : Prop := fnExactEvacuateTableauRow.holds Try.pinned (OpenSpec.ofChange fnExactEvacuateTableauSpec)

/-- ITS FALSE NEIGHBOUR: 'it returns false'. Refute it at one input. -/
def fnExactEvacuateTableauWrong : ChangeSpec := { name := "fnExactEvacuateTableau", fn := fun _ => fun
  | [d] => { results := [.lit (.bool false)], args := [d] }
  | _ => none }
def FnExactEvacuateTableauWrongFalsely : Prop := fnExactEvacuateTableauRow.holds Try.pinned (OpenSpec.ofChange fnExactEvacuateTableauWrong)

/-- 'laws.FnExactSortParking': WHATEVER THE INPUT: true; the input reads as it did. -/
def fnExactSortParkingSpec : ChangeSpec := { name := "fnExactSortParking", fn := fun _ => fun
  | [d] => { results := [.lit (.bool true)], args := [d] }
  | _ => none }
def fnExactSortParkingRow : OpenClaim := { program := "ytdjickibifcelaa", sum := "03f680338bf733901024589f4d020a8c5ad95e148f4c7d0e214f9a0c3e01167e", func := "loop.example/g03401/laws.FnExactSortParking", spec := "fnExactSortParking", recurses := true, apart := false }
def FnExactSortParkingSaid : Prop := fnExactSortParkingRow.holds Try.pinned (OpenSpec.ofChange fnExactSortParkingSpec)

/-- ITS FALSE NEIGHBOUR: 'it returns false'. Refute it at one input. -/
def fnExactSortParkingWrong : ChangeSpec := { name := "fnExactSortParking", fn := fun _ => fun
  | [d] => { results := [.lit (.bool false)], args := [d] }
  | _ => none }
def FnExactSortParkingWrongFalsely : Prop := fnExactSortParkingRow.holds Try.pinned (OpenSpec.ofChange fnExactSortParkingWrong)

/-- 'laws.FnExactTurnPolygon': WHATEVER THE INPUT: true; the input reads as it did. -/
def fnExactTurnPolygonSpec : ChangeSpec := { name := "fnExactTurnPolygon", fn := fun _ => fun
  | [d1, d2, d3] => { results := [.lit (.bool true)], args := [d1, d2, d3] }
  | _ => none }
def fnExactTurnPolygonRow : OpenClaim := { program := "ytdjickibifcelaa", sum := "03f680338bf733901024589f4d020a8c5ad95e148f4c7d0e214f9a0c3e01167e", func := "loop.example/g03401/laws.FnExactTurnPolygon", spec := "fnExactTurnPolygon", unfollowed := true, recurses := true, apart := false }
def FnExactTurnPolygonSaid : Prop := fnExactTurnPolygonRow.holds Try.pinned (OpenSpec.ofChange fnExactTurnPolygonSpec)

/-- ITS FALSE NEIGHBOUR: 'it returns false'. Refute it at one input. -/
def fnExactTurnPolygonWrong : ChangeSpec := { name := "fnExactTurnPolygon", fn := fun _ => fun
  | [d1, d2, d3] => { results := [.lit (.bool false)], args := [d1, d2, d3] }
  | _ => none }
def FnExactTurnPolygonWrongFalsely : Prop := fnExactTurnPolygonRow.holds Try.pinned (OpenSpec.ofChange fnExactTurnPolygonWrong)

/-- 'laws.FnExactTriangulationOf': WHATEVER THE INPUT: true; the input reads as it did. -/
def fnExactTriangulationOfSpec : ChangeSpec := { name := "fnExactTriangulationOf", fn := fun _ => fun
  | [d] => { results := [.lit (.bool true)], args := [d] }
  | _ => none }
def fnExactTriangulationOfRow : OpenClaim := { program := "ytdjickibifcelaa", sum := "03f680338bf733901024589f4d020a8c5ad95e148f4c7d0e214f9a0c3e01167e", func := "loop.example/g03401/laws.FnExactTriangulationOf", spec := "fnExactTriangulationOf", unfollowed := true, recurses := true, apart := false }
def FnExactTriangulationOfSaid : Prop := fnExactTriangulationOfRow.holds Try.pinned (OpenSpec.ofChange fnExactTriangulationOfSpec)

/-- ITS FALSE NEIGHBOUR: 'it returns false'. Refute it at one input. -/
def fnExactTriangulationOfWrong : ChangeSpec := { name := "fnExactTriangulationOf", fn := fun _ => fun
  | [d] => { results := [.lit (.bool false)], args := [d] }
  | _ => none }
def FnExactTriangulationOfWrongFalsely : Prop := fnExactTriangulationOfRow.holds Try.pinned (OpenSpec.ofChange fnExactTriangulationOfWrong)

/-- 'laws.FnExactStatisticOf': WHATEVER THE INPUT: true; the input reads as it did. -/
def fnExactStatisticOfSpec : ChangeSpec := { name := "fnExactStatisticOf", fn := fun _ => fun
  | [d1, d2] => { results := [.lit (.bool true)], args := [d1, d2] }
  | _ => none }
def fnExactStatisticOfRow : OpenClaim := { program := "ytdjickibifcelaa", sum := "03f680338bf733901024589f4d020a8c5ad95e148f4c7d0e214f9a0c3e01167e", func := "loop.example/g03401/laws.FnExactStatisticOf", spec := "fnExactStatisticOf", apart := false }
def FnExactStatisticOfSaid : Prop := fnExactStatisticOfRow.holds Try.pinned (OpenSpec.ofChange fnExactStatisticOfSpec)

/-- ITS FALSE NEIGHBOUR: 'it returns false'. Refute it at one input. -/
def fnExactStatisticOfWrong : ChangeSpec := { name := "fnExactStatisticOf", fn := fun _ => fun
  | [d1, d2] => { results := [.lit (.bool false)], args := [d1, d2] }
  | _ => none }
def FnExactStatisticOfWrongFalsely : Prop := fnExactStatisticOfRow.holds Try.pinned (OpenSpec.ofChange fnExactStatisticOfWrong)

/-- 'laws.FnExactTrianglesOf': WHATEVER THE INPUT: true; the input reads as it did. -/
def fnExactTrianglesOfSpec : ChangeSpec := { name := "fnExactTrianglesOf", fn := fun _ => fun
  | [d1, d2] => { results := [.lit (.bool true)], args := [d1, d2] }
  | _ => none }
def fnExactTrianglesOfRow : OpenClaim := { program := "ytdjickibifcelaa", sum := "03f680338bf733901024589f4d020a8c5ad95e148f4c7d0e214f9a0c3e01167e", func := "loop.example/g03401/laws.FnExactTrianglesOf", spec := "fnExactTrianglesOf", unfollowed := true, recurses := true, apart := false }
def FnExactTrianglesOfSaid : Prop := fnExactTrianglesOfRow.holds Try.pinned (OpenSpec.ofChange fnExactTrianglesOfSpec)

/-- ITS FALSE NEIGHBOUR: 'it returns false'. Refute it at one input. -/
def fnExactTrianglesOfWrong : ChangeSpec := { name := "fnExactTrianglesOf", fn := fun _ => fun
  | [d1, d2] => { results := [.lit (.bool false)], args := [d1, d2] }
  | _ => none }
def FnExactTrianglesOfWrongFalsely : Prop := fnExactTrianglesOfRow.holds Try.pinned (OpenSpec.ofChange fnExactTrianglesOfWrong)

/-- 'laws.FnExactDistributionOf': WHATEVER THE INPUT: true; the input reads as it did. -/
def fnExactDistributionOfSpec : ChangeSpec := { name := "fnExactDistributionOf", fn := fun _ => fun
  | [d1, d2] => { results := [.lit (.bool true)], args := [d1, d2] }
  | _ => none }
def fnExactDistributionOfRow : OpenClaim := { program := "ytdjickibifcelaa", sum := "03f680338bf733901024589f4d020a8c5ad95e148f4c7d0e214f9a0c3e01167e", func := "loop.example/g03401/laws.FnExactDistributionOf", spec := "fnExactDistributionOf", unfollowed := true, recurses := true, apart := false }
def FnExactDistributionOfSaid : Prop := fnExactDistributionOfRow.holds Try.pinned (OpenSpec.ofChange fnExactDistributionOfSpec)

/-- ITS FALSE NEIGHBOUR: 'it returns false'. Refute it at one input. -/
def fnExactDistributionOfWrong : ChangeSpec := { name := "fnExactDistributionOf", fn := fun _ => fun
  | [d1, d2] => { results := [.lit (.bool false)], args := [d1, d2] }
  | _ => none }
def FnExactDistributionOfWrongFalsely : Prop := fnExactDistributionOfRow.holds Try.pinned (OpenSpec.ofChange fnExactDistributionOfWrong)

/- THE SECOND FORM. 'bulk': how many values and letters a reading holds, each counted each time it is reached (what is shared counts as often as it is met; a slice's spare places count too). A statement '..UptoSaid' is the law's where the arguments, and the package variables that the reading takes, are together of bulk at most 1048576: NARROWER than '..Said'. Prove '..Said' where nothing that the law and all that it calls make is longer than what came in: it says more and counts as full. Else prove '..UptoSaid'. A law counts once. -/
mutual
def uptoBulk {H : Type} : DataW H → Nat
  | .lit (.string bytes) => bytes.length + 1
  | .lit _ => 1
  | .nil => 1
  | .ptr d => uptoBulk d + 1
  | .slice elems spare => uptoBulkAll elems + uptoBulkAll spare + 1
  | .agg parts => uptoBulkAll parts + 1
  | .iface _ d => uptoBulk d + 1
  | .map entries => uptoBulkEntries entries + 1
  | .held _ => 1
def uptoBulkAll {H : Type} : List (DataW H) → Nat
  | [] => 0
  | d :: r => uptoBulk d + uptoBulkAll r
def uptoBulkEntries {H : Type} : List (Lit × DataW H) → Nat
  | [] => 0
  | x :: r => uptoBulkEntry x + uptoBulkEntries r
def uptoBulkEntry {H : Type} : Lit × DataW H → Nat
  | (.string bytes, d) => bytes.length + uptoBulk d + 1
  | (_, d) => uptoBulk d + 1
 end
def uptoSmall : (H : Type) → List (DataW H) → Bool := fun _ ds => decide (uptoBulkAll ds ≤ 1048576)
def OpenSpec.upto (s : _root_.Go.ChangeSpec) : _root_.Go.OpenSpec := { _root_.Go.OpenSpec.ofChange s with cond := some uptoSmall }

/-- 'laws.FnExactMatchingOfPartition', WHERE WHAT IT READS IS OF BULK AT MOST 1048576: true; the input reads as it did. -/
def fnExactMatchingOfPartitionUptoRow : OpenClaim := { program := "ytdjickibifcelaa", sum := "03f680338bf733901024589f4d020a8c5ad95e148f4c7d0e214f9a0c3e01167e", func := "loop.example/g03401/laws.FnExactMatchingOfPartition", spec := "fnExactMatchingOfPartition", apart := false, narrowed := true }
def FnExactMatchingOfPartitionUptoSaid : Prop := fnExactMatchingOfPartitionUptoRow.holds Try.pinned (OpenSpec.upto fnExactMatchingOfPartitionSpec)

/-- 'laws.FnExactPartitionOf', WHERE WHAT IT READS IS OF BULK AT MOST 1048576: true; the input reads as it did. -/
def fnExactPartitionOfUptoRow : OpenClaim := { program := "ytdjickibifcelaa", sum := "03f680338bf733901024589f4d020a8c5ad95e148f4c7d0e214f9a0c3e01167e", func := "loop.example/g03401/laws.FnExactPartitionOf", spec := "fnExactPartitionOf", apart := false, narrowed := true }
def FnExactPartitionOfUptoSaid : Prop := fnExactPartitionOfUptoRow.holds Try.pinned (OpenSpec.upto fnExactPartitionOfSpec)

/-- 'laws.FnExactDescentsOfTableau', WHERE WHAT IT READS IS OF BULK AT MOST 1048576: true; the input reads as it did. -/
def fnExactDescentsOfTableauUptoRow : OpenClaim := { program := "ytdjickibifcelaa", sum := "03f680338bf733901024589f4d020a8c5ad95e148f4c7d0e214f9a0c3e01167e", func := "loop.example/g03401/laws.FnExactDescentsOfTableau", spec := "fnExactDescentsOfTableau", apart := false, narrowed := true }
def FnExactDescentsOfTableauUptoSaid : Prop := fnExactDescentsOfTableauUptoRow.holds Try.pinned (OpenSpec.upto fnExactDescentsOfTableauSpec)

/-- 'laws.FnExactAvoiders', WHERE WHAT IT READS IS OF BULK AT MOST 1048576: true; the input reads as it did. -/
def fnExactAvoidersUptoRow : OpenClaim := { program := "ytdjickibifcelaa", sum := "03f680338bf733901024589f4d020a8c5ad95e148f4c7d0e214f9a0c3e01167e", func := "loop.example/g03401/laws.FnExactAvoiders", spec := "fnExactAvoiders", unfollowed := true, recurses := true, apart := false, narrowed := true }
def FnExactAvoidersUptoSaid : Prop := fnExactAvoidersUptoRow.holds Try.pinned (OpenSpec.upto fnExactAvoidersSpec)

/-- 'laws.FnExactPromoteTableau', WHERE WHAT IT READS IS OF BULK AT MOST 1048576: true; the input reads as it did. -/
def fnExactPromoteTableauUptoRow : OpenClaim := { program := "ytdjickibifcelaa", sum := "03f680338bf733901024589f4d020a8c5ad95e148f4c7d0e214f9a0c3e01167e", func := "loop.example/g03401/laws.FnExactPromoteTableau", spec := "fnExactPromoteTableau", apart := false, narrowed := true }
def FnExactPromoteTableauUptoSaid : Prop := fnExactPromoteTableauUptoRow.holds Try.pinned (OpenSpec.upto fnExactPromoteTableauSpec)

/-- 'laws.FnExactEvacuateTableau', WHERE WHAT IT READS IS OF BULK AT MOST 1048576: true; the input reads as it did. -/
def fnExactEvacuateTableauUptoRow : OpenClaim := { program := "ytdjickibifcelaa", sum := "03f680338bf733901024589f4d020a8c5ad95e148f4c7d0e214f9a0c3e01167e", func := "loop.example/g03401/laws.FnExactEvacuateTableau", spec := "fnExactEvacuateTableau", apart := false, narrowed := true }
def FnExactEvacuateTableauUptoSaid : Prop := fnExactEvacuateTableauUptoRow.holds Try.pinned (OpenSpec.upto fnExactEvacuateTableauSpec)

/-- 'laws.FnExactSortParking', WHERE WHAT IT READS IS OF BULK AT MOST 1048576: true; the input reads as it did. -/
def fnExactSortParkingUptoRow : OpenClaim := { program := "ytdjickibifcelaa", sum := "03f680338bf733901024589f4d020a8c5ad95e148f4c7d0e214f9a0c3e01167e", func := "loop.example/g03401/laws.FnExactSortParking", spec := "fnExactSortParking", recurses := true, apart := false, narrowed := true }
def FnExactSortParkingUptoSaid : Prop := fnExactSortParkingUptoRow.holds Try.pinned (OpenSpec.upto fnExactSortParkingSpec)

/-- 'laws.FnExactTurnPolygon', WHERE WHAT IT READS IS OF BULK AT MOST 1048576: true; the input reads as it did. -/
def fnExactTurnPolygonUptoRow : OpenClaim := { program := "ytdjickibifcelaa", sum := "03f680338bf733901024589f4d020a8c5ad95e148f4c7d0e214f9a0c3e01167e", func := "loop.example/g03401/laws.FnExactTurnPolygon", spec := "fnExactTurnPolygon", unfollowed := true, recurses := true, apart := false, narrowed := true }
def FnExactTurnPolygonUptoSaid : Prop := fnExactTurnPolygonUptoRow.holds Try.pinned (OpenSpec.upto fnExactTurnPolygonSpec)

/-- 'laws.FnExactTriangulationOf', WHERE WHAT IT READS IS OF BULK AT MOST 1048576: true; the input reads as it did. -/
def fnExactTriangulationOfUptoRow : OpenClaim := { program := "ytdjickibifcelaa", sum := "03f680338bf733901024589f4d020a8c5ad95e148f4c7d0e214f9a0c3e01167e", func := "loop.example/g03401/laws.FnExactTriangulationOf", spec := "fnExactTriangulationOf", unfollowed := true, recurses := true, apart := false, narrowed := true }
def FnExactTriangulationOfUptoSaid : Prop := fnExactTriangulationOfUptoRow.holds Try.pinned (OpenSpec.upto fnExactTriangulationOfSpec)

/-- 'laws.FnExactStatisticOf', WHERE WHAT IT READS IS OF BULK AT MOST 1048576: true; the input reads as it did. -/
def fnExactStatisticOfUptoRow : OpenClaim := { program := "ytdjickibifcelaa", sum := "03f680338bf733901024589f4d020a8c5ad95e148f4c7d0e214f9a0c3e01167e", func := "loop.example/g03401/laws.FnExactStatisticOf", spec := "fnExactStatisticOf", apart := false, narrowed := true }
def FnExactStatisticOfUptoSaid : Prop := fnExactStatisticOfUptoRow.holds Try.pinned (OpenSpec.upto fnExactStatisticOfSpec)

/-- 'laws.FnExactTrianglesOf', WHERE WHAT IT READS IS OF BULK AT MOST 1048576: true; the input reads as it did. -/
def fnExactTrianglesOfUptoRow : OpenClaim := { program := "ytdjickibifcelaa", sum := "03f680338bf733901024589f4d020a8c5ad95e148f4c7d0e214f9a0c3e01167e", func := "loop.example/g03401/laws.FnExactTrianglesOf", spec := "fnExactTrianglesOf", unfollowed := true, recurses := true, apart := false, narrowed := true }
def FnExactTrianglesOfUptoSaid : Prop := fnExactTrianglesOfUptoRow.holds Try.pinned (OpenSpec.upto fnExactTrianglesOfSpec)

/-- 'laws.FnExactDistributionOf', WHERE WHAT IT READS IS OF BULK AT MOST 1048576: true; the input reads as it did. -/
def fnExactDistributionOfUptoRow : OpenClaim := { program := "ytdjickibifcelaa", sum := "03f680338bf733901024589f4d020a8c5ad95e148f4c7d0e214f9a0c3e01167e", func := "loop.example/g03401/laws.FnExactDistributionOf", spec := "fnExactDistributionOf", unfollowed := true, recurses := true, apart := false, narrowed := true }
def FnExactDistributionOfUptoSaid : Prop := fnExactDistributionOfUptoRow.holds Try.pinned (OpenSpec.upto fnExactDistributionOfSpec)

end Rows
end Go.Proofs.Ytdjickibifcelaa
