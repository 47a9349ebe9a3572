/-
  No cell of these rows narrows 'for every input' (looked for: loops, veiled, ifaces, maps, wideKeys, modest, calm, conditions, laid).
  DERIVED. THE GIVEN ROWS OF THIS SEAT. 12 by the template 'for every input the law returns true; each argument reads behind the call as it read before'; 0 by the template 'total and deterministic' (their statements: YtgcohjahkifblaaTotals.lean).
  GIVEN WITH THE SEED: the statements are not yours to turn. If you find one false, say at which input.
  Laid BY PROGRAM, IN A SANDBOX (cutbox-rows.mjs): the forced cells as the released guide's own fill.sh prints them over the translation d1c2e26594ddf37b… (all of the seat's roots in one cut). By AI agents, Wed Nov 11 2026. No macro, syntax, notation, axiom, sorry.
-/
import Derived.Test.YtgcohjahkifblaaChecked
import GoSem.Claim
import GoSem.ClaimJoined
import GoSem.ClaimMapViews
import Derived.JoinedTies
import Derived.KernelRfl
namespace Go.Proofs.Ytgcohjahkifblaa
/- THE CELL 'sum', in the pinned program and in every row, IS THE sha256 OF THE DUMP (.gsa) THAT YtgcohjahkifblaaProg.lean LOADS. Nothing in Lean hashes anything: it is a label: what it is worth is what the hold of that sum in a sandbox is worth. -/
noncomputable def Try.pinned : Pinned := { name := "ytgcohjahkifblaa", sum := "d1c2e26594ddf37b86280b976a2433b00d684fb74a46b448844501a1eb320a00", checked := Try.checked }
namespace Rows
def none {H : Type} : Left H := { results := [], args := [] }

/-- 'laws.FnExactPathOfMatching': WHATEVER THE INPUT: true; the input reads as it did. -/
def fnExactPathOfMatchingSpec : ChangeSpec := { name := "fnExactPathOfMatching", fn := fun _ => fun
  | [d] => { results := [.lit (.bool true)], args := [d] }
  | _ => none }
def fnExactPathOfMatchingRow : OpenClaim := { program := "ytgcohjahkifblaa", sum := "d1c2e26594ddf37b86280b976a2433b00d684fb74a46b448844501a1eb320a00", func := "loop.example/g03401/laws.FnExactPathOfMatching", spec := "fnExactPathOfMatching", apart := false }
def FnExactPathOfMatchingSaid : Prop := fnExactPathOfMatchingRow.holds Try.pinned (OpenSpec.ofChange fnExactPathOfMatchingSpec)

/-- ITS FALSE NEIGHBOUR: 'it returns false'. Refute it at one input. -/
def fnExactPathOfMatchingWrong : ChangeSpec := { name := "fnExactPathOfMatching", fn := fun _ => fun
  | [d] => { results := [.lit (.bool false)], args := [d] }
  | _ => none }
def FnExactPathOfMatchingWrongFalsely : Prop := fnExactPathOfMatchingRow.holds Try.pinned (OpenSpec.ofChange fnExactPathOfMatchingWrong)

/-- 'laws.FnExactPathOfParking': WHATEVER THE INPUT: true; the input reads as it did. -/
def fnExactPathOfParkingSpec : ChangeSpec := { name := "fnExactPathOfParking", fn := fun _ => fun
  | [d] => { results := [.lit (.bool true)], args := [d] }
  | _ => none }
def fnExactPathOfParkingRow : OpenClaim := { program := "ytgcohjahkifblaa", sum := "d1c2e26594ddf37b86280b976a2433b00d684fb74a46b448844501a1eb320a00", func := "loop.example/g03401/laws.FnExactPathOfParking", spec := "fnExactPathOfParking", apart := false }
def FnExactPathOfParkingSaid : Prop := fnExactPathOfParkingRow.holds Try.pinned (OpenSpec.ofChange fnExactPathOfParkingSpec)

/-- ITS FALSE NEIGHBOUR: 'it returns false'. Refute it at one input. -/
def fnExactPathOfParkingWrong : ChangeSpec := { name := "fnExactPathOfParking", fn := fun _ => fun
  | [d] => { results := [.lit (.bool false)], args := [d] }
  | _ => none }
def FnExactPathOfParkingWrongFalsely : Prop := fnExactPathOfParkingRow.holds Try.pinned (OpenSpec.ofChange fnExactPathOfParkingWrong)

/-- 'laws.FnExactPermutationOf': WHATEVER THE INPUT: true; the input reads as it did. -/
def fnExactPermutationOfSpec : ChangeSpec := { name := "fnExactPermutationOf", fn := fun _ => fun
  | [d] => { results := [.lit (.bool true)], args := [d] }
  | _ => none }
def fnExactPermutationOfRow : OpenClaim := { program := "ytgcohjahkifblaa", sum := "d1c2e26594ddf37b86280b976a2433b00d684fb74a46b448844501a1eb320a00", func := "loop.example/g03401/laws.FnExactPermutationOf", spec := "fnExactPermutationOf", apart := false }
def FnExactPermutationOfSaid : Prop := fnExactPermutationOfRow.holds Try.pinned (OpenSpec.ofChange fnExactPermutationOfSpec)

/-- ITS FALSE NEIGHBOUR: 'it returns false'. Refute it at one input. -/
def fnExactPermutationOfWrong : ChangeSpec := { name := "fnExactPermutationOf", fn := fun _ => fun
  | [d] => { results := [.lit (.bool false)], args := [d] }
  | _ => none }
def FnExactPermutationOfWrongFalsely : Prop := fnExactPermutationOfRow.holds Try.pinned (OpenSpec.ofChange fnExactPermutationOfWrong)

/-- 'laws.FnExactBlocksOf': WHATEVER THE INPUT: true; the input reads as it did. -/
def fnExactBlocksOfSpec : ChangeSpec := { name := "fnExactBlocksOf", fn := fun _ => fun
  | [d] => { results := [.lit (.bool true)], args := [d] }
  | _ => none }
def fnExactBlocksOfRow : OpenClaim := { program := "ytgcohjahkifblaa", sum := "d1c2e26594ddf37b86280b976a2433b00d684fb74a46b448844501a1eb320a00", func := "loop.example/g03401/laws.FnExactBlocksOf", spec := "fnExactBlocksOf", apart := false }
def FnExactBlocksOfSaid : Prop := fnExactBlocksOfRow.holds Try.pinned (OpenSpec.ofChange fnExactBlocksOfSpec)

/-- ITS FALSE NEIGHBOUR: 'it returns false'. Refute it at one input. -/
def fnExactBlocksOfWrong : ChangeSpec := { name := "fnExactBlocksOf", fn := fun _ => fun
  | [d] => { results := [.lit (.bool false)], args := [d] }
  | _ => none }
def FnExactBlocksOfWrongFalsely : Prop := fnExactBlocksOfRow.holds Try.pinned (OpenSpec.ofChange fnExactBlocksOfWrong)

/-- 'laws.FnExactPathOfPermutation': WHATEVER THE INPUT: true; the input reads as it did. -/
def fnExactPathOfPermutationSpec : ChangeSpec := { name := "fnExactPathOfPermutation", fn := fun _ => fun
  | [d] => { results := [.lit (.bool true)], args := [d] }
  | _ => none }
def fnExactPathOfPermutationRow : OpenClaim := { program := "ytgcohjahkifblaa", sum := "d1c2e26594ddf37b86280b976a2433b00d684fb74a46b448844501a1eb320a00", func := "loop.example/g03401/laws.FnExactPathOfPermutation", spec := "fnExactPathOfPermutation", unfollowed := true, recurses := true, apart := false }
def FnExactPathOfPermutationSaid : Prop := fnExactPathOfPermutationRow.holds Try.pinned (OpenSpec.ofChange fnExactPathOfPermutationSpec)

/-- ITS FALSE NEIGHBOUR: 'it returns false'. Refute it at one input. -/
def fnExactPathOfPermutationWrong : ChangeSpec := { name := "fnExactPathOfPermutation", fn := fun _ => fun
  | [d] => { results := [.lit (.bool false)], args := [d] }
  | _ => none }
def FnExactPathOfPermutationWrongFalsely : Prop := fnExactPathOfPermutationRow.holds Try.pinned (OpenSpec.ofChange fnExactPathOfPermutationWrong)

/-- 'laws.FnExactFormatMatching': WHATEVER THE INPUT: true; the input reads as it did. -/
def fnExactFormatMatchingSpec : ChangeSpec := { name := "fnExactFormatMatching", fn := fun _ => fun
  | [d] => { results := [.lit (.bool true)], args := [d] }
  | _ => none }
def fnExactFormatMatchingRow : OpenClaim := { program := "ytgcohjahkifblaa", sum := "d1c2e26594ddf37b86280b976a2433b00d684fb74a46b448844501a1eb320a00", func := "loop.example/g03401/laws.FnExactFormatMatching", spec := "fnExactFormatMatching", apart := false }
def FnExactFormatMatchingSaid : Prop := fnExactFormatMatchingRow.holds Try.pinned (OpenSpec.ofChange fnExactFormatMatchingSpec)

/-- ITS FALSE NEIGHBOUR: 'it returns false'. Refute it at one input. -/
def fnExactFormatMatchingWrong : ChangeSpec := { name := "fnExactFormatMatching", fn := fun _ => fun
  | [d] => { results := [.lit (.bool false)], args := [d] }
  | _ => none }
def FnExactFormatMatchingWrongFalsely : Prop := fnExactFormatMatchingRow.holds Try.pinned (OpenSpec.ofChange fnExactFormatMatchingWrong)

/-- 'laws.FnExactTurnPartition': WHATEVER THE INPUT: true; the input reads as it did. -/
def fnExactTurnPartitionSpec : ChangeSpec := { name := "fnExactTurnPartition", fn := fun _ => fun
  | [d] => { results := [.lit (.bool true)], args := [d] }
  | _ => none }
def fnExactTurnPartitionRow : OpenClaim := { program := "ytgcohjahkifblaa", sum := "d1c2e26594ddf37b86280b976a2433b00d684fb74a46b448844501a1eb320a00", func := "loop.example/g03401/laws.FnExactTurnPartition", spec := "fnExactTurnPartition", apart := false }
def FnExactTurnPartitionSaid : Prop := fnExactTurnPartitionRow.holds Try.pinned (OpenSpec.ofChange fnExactTurnPartitionSpec)

/-- ITS FALSE NEIGHBOUR: 'it returns false'. Refute it at one input. -/
def fnExactTurnPartitionWrong : ChangeSpec := { name := "fnExactTurnPartition", fn := fun _ => fun
  | [d] => { results := [.lit (.bool false)], args := [d] }
  | _ => none }
def FnExactTurnPartitionWrongFalsely : Prop := fnExactTurnPartitionRow.holds Try.pinned (OpenSpec.ofChange fnExactTurnPartitionWrong)

/-- 'laws.FnExactMatchingOf': WHATEVER THE INPUT: true; the input reads as it did. -/
def fnExactMatchingOfSpec : ChangeSpec := { name := "fnExactMatchingOf", fn := fun _ => fun
  | [d] => { results := [.lit (.bool true)], args := [d] }
  | _ => none }
def fnExactMatchingOfRow : OpenClaim := { program := "ytgcohjahkifblaa", sum := "d1c2e26594ddf37b86280b976a2433b00d684fb74a46b448844501a1eb320a00", func := "loop.example/g03401/laws.FnExactMatchingOf", spec := "fnExactMatchingOf", apart := false }
def FnExactMatchingOfSaid : Prop := fnExactMatchingOfRow.holds Try.pinned (OpenSpec.ofChange fnExactMatchingOfSpec)

/-- ITS FALSE NEIGHBOUR: 'it returns false'. Refute it at one input. -/
def fnExactMatchingOfWrong : ChangeSpec := { name := "fnExactMatchingOf", fn := fun _ => fun
  | [d] => { results := [.lit (.bool false)], args := [d] }
  | _ => none }
def FnExactMatchingOfWrongFalsely : Prop := fnExactMatchingOfRow.holds Try.pinned (OpenSpec.ofChange fnExactMatchingOfWrong)

/-- 'laws.FnExactTableauOf': WHATEVER THE INPUT: true; the input reads as it did. -/
def fnExactTableauOfSpec : ChangeSpec := { name := "fnExactTableauOf", fn := fun _ => fun
  | [d] => { results := [.lit (.bool true)], args := [d] }
  | _ => none }
def fnExactTableauOfRow : OpenClaim := { program := "ytgcohjahkifblaa", sum := "d1c2e26594ddf37b86280b976a2433b00d684fb74a46b448844501a1eb320a00", func := "loop.example/g03401/laws.FnExactTableauOf", spec := "fnExactTableauOf", apart := false }
def FnExactTableauOfSaid : Prop := fnExactTableauOfRow.holds Try.pinned (OpenSpec.ofChange fnExactTableauOfSpec)

/-- ITS FALSE NEIGHBOUR: 'it returns false'. Refute it at one input. -/
def fnExactTableauOfWrong : ChangeSpec := { name := "fnExactTableauOf", fn := fun _ => fun
  | [d] => { results := [.lit (.bool false)], args := [d] }
  | _ => none }
def FnExactTableauOfWrongFalsely : Prop := fnExactTableauOfRow.holds Try.pinned (OpenSpec.ofChange fnExactTableauOfWrong)

/-- 'laws.FnExactPathOfTableau': WHATEVER THE INPUT: true; the input reads as it did. -/
def fnExactPathOfTableauSpec : ChangeSpec := { name := "fnExactPathOfTableau", fn := fun _ => fun
  | [d] => { results := [.lit (.bool true)], args := [d] }
  | _ => none }
def fnExactPathOfTableauRow : OpenClaim := { program := "ytgcohjahkifblaa", sum := "d1c2e26594ddf37b86280b976a2433b00d684fb74a46b448844501a1eb320a00", func := "loop.example/g03401/laws.FnExactPathOfTableau", spec := "fnExactPathOfTableau", apart := false }
def FnExactPathOfTableauSaid : Prop := fnExactPathOfTableauRow.holds Try.pinned (OpenSpec.ofChange fnExactPathOfTableauSpec)

/-- ITS FALSE NEIGHBOUR: 'it returns false'. Refute it at one input. -/
def fnExactPathOfTableauWrong : ChangeSpec := { name := "fnExactPathOfTableau", fn := fun _ => fun
  | [d] => { results := [.lit (.bool false)], args := [d] }
  | _ => none }
def FnExactPathOfTableauWrongFalsely : Prop := fnExactPathOfTableauRow.holds Try.pinned (OpenSpec.ofChange fnExactPathOfTableauWrong)

/-- 'laws.FnExactPathOfPartition': WHATEVER THE INPUT: true; the input reads as it did. -/
def fnExactPathOfPartitionSpec : ChangeSpec := { name := "fnExactPathOfPartition", fn := fun _ => fun
  | [d] => { results := [.lit (.bool true)], args := [d] }
  | _ => none }
def fnExactPathOfPartitionRow : OpenClaim := { program := "ytgcohjahkifblaa", sum := "d1c2e26594ddf37b86280b976a2433b00d684fb74a46b448844501a1eb320a00", func := "loop.example/g03401/laws.FnExactPathOfPartition", spec := "fnExactPathOfPartition", apart := false }
def FnExactPathOfPartitionSaid : Prop := fnExactPathOfPartitionRow.holds Try.pinned (OpenSpec.ofChange fnExactPathOfPartitionSpec)

/-- ITS FALSE NEIGHBOUR: 'it returns false'. Refute it at one input. -/
def fnExactPathOfPartitionWrong : ChangeSpec := { name := "fnExactPathOfPartition", fn := fun _ => fun
  | [d] => { results := [.lit (.bool false)], args := [d] }
  | _ => none }
def FnExactPathOfPartitionWrongFalsely : Prop := fnExactPathOfPartitionRow.holds Try.pinned (OpenSpec.ofChange fnExactPathOfPartitionWrong)

/-- 'laws.FnExactFormatPartition': WHATEVER THE INPUT: true; the input reads as it did. -/
def fnExactFormatPartitionSpec : ChangeSpec := { name := "fnExactFormatPartition", fn := fun _ => fun
  | [d] => { results := [.lit (.bool true)], args := [d] }
  | _ => none }
def fnExactFormatPartitionRow : OpenClaim := { program := "ytgcohjahkifblaa", sum := "d1c2e26594ddf37b86280b976a2433b00d684fb74a46b448844501a1eb320a00", func := "loop.example/g03401/laws.FnExactFormatPartition", spec := "fnExactFormatPartition", apart := false }
def FnExactFormatPartitionSaid : Prop := fnExactFormatPartitionRow.holds Try.pinned (OpenSpec.ofChange fnExactFormatPartitionSpec)

/-- ITS FALSE NEIGHBOUR: 'it returns false'. Refute it at one input. -/
def fnExactFormatPartitionWrong : ChangeSpec := { name := "fnExactFormatPartition", fn := fun _ => fun
  | [d] => { results := [.lit (.bool false)], args := [d] }
  | _ => none }
def FnExactFormatPartitionWrongFalsely : Prop := fnExactFormatPartitionRow.holds Try.pinned (OpenSpec.ofChange fnExactFormatPartitionWrong)

/- THE SECOND FORM. 'bulk': how many values and letters a reading holds, each counted each time it is reached (what is shared counts as often as it is met; a slice's spare places count too). A statement '..UptoSaid' is the law's where the arguments, and the package variables that the reading takes, are together of bulk at most 1048576: NARROWER than '..Said'. Prove '..Said' where nothing that the law and all that it calls make is longer than what came in: it says more and counts as full. Else prove '..UptoSaid'. A law counts once. -/
mutual
def uptoBulk {H : Type} : DataW H → Nat
  | .lit (.string bytes) => bytes.length + 1
  | .lit _ => 1
  | .nil => 1
  | .ptr d => uptoBulk d + 1
  | .slice elems spare => uptoBulkAll elems + uptoBulkAll spare + 1
  | .agg parts => uptoBulkAll parts + 1
  | .iface _ d => uptoBulk d + 1
  | .map entries => uptoBulkEntries entries + 1
  | .held _ => 1
def uptoBulkAll {H : Type} : List (DataW H) → Nat
  | [] => 0
  | d :: r => uptoBulk d + uptoBulkAll r
def uptoBulkEntries {H : Type} : List (Lit × DataW H) → Nat
  | [] => 0
  | x :: r => uptoBulkEntry x + uptoBulkEntries r
def uptoBulkEntry {H : Type} : Lit × DataW H → Nat
  | (.string bytes, d) => bytes.length + uptoBulk d + 1
  | (_, d) => uptoBulk d + 1
 end
def uptoSmall : (H : Type) → List (DataW H) → Bool := fun _ ds => decide (uptoBulkAll ds ≤ 1048576)
def OpenSpec.upto (s : _root_.Go.ChangeSpec) : _root_.Go.OpenSpec := { _root_.Go.OpenSpec.ofChange s with cond := some uptoSmall }

/-- 'laws.FnExactPathOfMatching', WHERE WHAT IT READS IS OF BULK AT MOST 1048576: true; the input reads as it did. -/
def fnExactPathOfMatchingUptoRow : OpenClaim := { program := "ytgcohjahkifblaa", sum := "d1c2e26594ddf37b86280b976a2433b00d684fb74a46b448844501a1eb320a00", func := "loop.example/g03401/laws.FnExactPathOfMatching", spec := "fnExactPathOfMatching", apart := false, narrowed := true }
def FnExactPathOfMatchingUptoSaid : Prop := fnExactPathOfMatchingUptoRow.holds Try.pinned (OpenSpec.upto fnExactPathOfMatchingSpec)

/-- 'laws.FnExactPathOfParking', WHERE WHAT IT READS IS OF BULK AT MOST 1048576: true; the input reads as it did. -/
def fnExactPathOfParkingUptoRow : OpenClaim := { program := "ytgcohjahkifblaa", sum := "d1c2e26594ddf37b86280b976a2433b00d684fb74a46b448844501a1eb320a00", func := "loop.example/g03401/laws.FnExactPathOfParking", spec := "fnExactPathOfParking", apart := false, narrowed := true }
def FnExactPathOfParkingUptoSaid : Prop := fnExactPathOfParkingUptoRow.holds Try.pinned (OpenSpec.upto fnExactPathOfParkingSpec)

/-- 'laws.FnExactPermutationOf', WHERE WHAT IT READS IS OF BULK AT MOST 1048576: true; the input reads as it did. -/
def fnExactPermutationOfUptoRow : OpenClaim := { program := "ytgcohjahkifblaa", sum := "d1c2e26594ddf37b86280b976a2433b00d684fb74a46b448844501a1eb320a00", func := "loop.example/g03401/laws.FnExactPermutationOf", spec := "fnExactPermutationOf", apart := false, narrowed := true }
def FnExactPermutationOfUptoSaid : Prop := fnExactPermutationOfUptoRow.holds Try.pinned (OpenSpec.upto fnExactPermutationOfSpec)

/-- 'laws.FnExactBlocksOf', WHERE WHAT IT READS IS OF BULK AT MOST 1048576: true; the input reads as it did. -/
def fnExactBlocksOfUptoRow : OpenClaim := { program := "ytgcohjahkifblaa", sum := "d1c2e26594ddf37b86280b976a2433b00d684fb74a46b448844501a1eb320a00", func := "loop.example/g03401/laws.FnExactBlocksOf", spec := "fnExactBlocksOf", apart := false, narrowed := true }
def FnExactBlocksOfUptoSaid : Prop := fnExactBlocksOfUptoRow.holds Try.pinned (OpenSpec.upto fnExactBlocksOfSpec)

/-- 'laws.FnExactPathOfPermutation', WHERE WHAT IT READS IS OF BULK AT MOST 1048576: true; the input reads as it did. -/
def fnExactPathOfPermutationUptoRow : OpenClaim := { program := "ytgcohjahkifblaa", sum := "d1c2e26594ddf37b86280b976a2433b00d684fb74a46b448844501a1eb320a00", func := "loop.example/g03401/laws.FnExactPathOfPermutation", spec := "fnExactPathOfPermutation", unfollowed := true, recurses := true, apart := false, narrowed := true }
def FnExactPathOfPermutationUptoSaid : Prop := fnExactPathOfPermutationUptoRow.holds Try.pinned (OpenSpec.upto fnExactPathOfPermutationSpec)

/-- 'laws.FnExactFormatMatching', WHERE WHAT IT READS IS OF BULK AT MOST 1048576: true; the input reads as it did. -/
def fnExactFormatMatchingUptoRow : OpenClaim := { program := "ytgcohjahkifblaa", sum := "d1c2e26594ddf37b86280b976a2433b00d684fb74a46b448844501a1eb320a00", func := "loop.example/g03401/laws.FnExactFormatMatching", spec := "fnExactFormatMatching", apart := false, narrowed := true }
def FnExactFormatMatchingUptoSaid : Prop := fnExactFormatMatchingUptoRow.holds Try.pinned (OpenSpec.upto fnExactFormatMatchingSpec)

/-- 'laws.FnExactTurnPartition', WHERE WHAT IT READS IS OF BULK AT MOST 1048576: true; the input reads as it did. -/
def fnExactTurnPartitionUptoRow : OpenClaim := { program := "ytgcohjahkifblaa", sum := "d1c2e26594ddf37b86280b976a2433b00d684fb74a46b448844501a1eb320a00", func := "loop.example/g03401/laws.FnExactTurnPartition", spec := "fnExactTurnPartition", apart := false, narrowed := true }
def FnExactTurnPartitionUptoSaid : Prop := fnExactTurnPartitionUptoRow.holds Try.pinned (OpenSpec.upto fnExactTurnPartitionSpec)

/-- 'laws.FnExactMatchingOf', WHERE WHAT IT READS IS OF BULK AT MOST 1048576: true; the input reads as it did. -/
def fnExactMatchingOfUptoRow : OpenClaim := { program := "ytgcohjahkifblaa", sum := "d1c2e26594ddf37b86280b976a2433b00d684fb74a46b448844501a1eb320a00", func := "loop.example/g03401/laws.FnExactMatchingOf", spec := "fnExactMatchingOf", apart := false, narrowed := true }
def FnExactMatchingOfUptoSaid : Prop := fnExactMatchingOfUptoRow.holds Try.pinned (OpenSpec.upto fnExactMatchingOfSpec)

/-- 'laws.FnExactTableauOf', WHERE WHAT IT READS IS OF BULK AT MOST 1048576: true; the input reads as it did. -/
def fnExactTableauOfUptoRow : OpenClaim := { program := "ytgcohjahkifblaa", sum := "d1c2e26594ddf37b86280b976a2433b00d684fb74a46b448844501a1eb320a00", func := "loop.example/g03401/laws.FnExactTableauOf", spec := "fnExactTableauOf", apart := false, narrowed := true }
def FnExactTableauOfUptoSaid : Prop := fnExactTableauOfUptoRow.holds Try.pinned (OpenSpec.upto fnExactTableauOfSpec)

/-- 'laws.FnExactPathOfTableau', WHERE WHAT IT READS IS OF BULK AT MOST 1048576: true; the input reads as it did. -/
def fnExactPathOfTableauUptoRow : OpenClaim := { program := "ytgcohjahkifblaa", sum := "d1c2e26594ddf37b86280b976a2433b00d684fb74a46b448844501a1eb320a00", func := "loop.example/g03401/laws.FnExactPathOfTableau", spec := "fnExactPathOfTableau", apart := false, narrowed := true }
def FnExactPathOfTableauUptoSaid : Prop := fnExactPathOfTableauUptoRow.holds Try.pinned (OpenSpec.upto fnExactPathOfTableauSpec)

/-- 'laws.FnExactPathOfPartition', WHERE WHAT IT READS IS OF BULK AT MOST 1048576: true; the input reads as it did. -/
def fnExactPathOfPartitionUptoRow : OpenClaim := { program := "ytgcohjahkifblaa", sum := "d1c2e26594ddf37b86280b976a2433b00d684fb74a46b448844501a1eb320a00", func := "loop.example/g03401/laws.FnExactPathOfPartition", spec := "fnExactPathOfPartition", apart := false, narrowed := true }
def FnExactPathOfPartitionUptoSaid : Prop := fnExactPathOfPartitionUptoRow.holds Try.pinned (OpenSpec.upto fnExactPathOfPartitionSpec)

/-- 'laws.FnExactFormatPartition', WHERE WHAT IT READS IS OF BULK AT MOST 1048576: true; the input reads as it did. -/
def fnExactFormatPartitionUptoRow : OpenClaim := { program := "ytgcohjahkifblaa", sum := "d1c2e26594ddf37b86280b976a2433b00d684fb74a46b448844501a1eb320a00", func := "loop.example/g03401/laws.FnExactFormatPartition", spec := "fnExactFormatPartition", apart := false, narrowed := true }
def FnExactFormatPartitionUptoSaid : Prop := fnExactFormatPartitionUptoRow.holds Try.pinned (OpenSpec.upto fnExactFormatPartitionSpec)

end Rows
end Go.Proofs.Ytgcohjahkifblaa
