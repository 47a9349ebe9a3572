/-
  No cell of these rows narrows 'for every input' (looked for: loops, veiled, ifaces, maps, wideKeys, modest, calm, conditions, laid).
  DERIVED. THE GIVEN ROWS OF THIS SEAT. 10 by the template 'for every input the law returns true; each argument reads behind the call as it read before'; 0 by the template 'total and deterministic' (their statements: YtngfkajfbgfncaaTotals.lean).
  GIVEN WITH THE SEED: the statements are not yours to turn. If you find one false, say at which input.
  Laid BY PROGRAM, IN A SANDBOX (cutbox-rows.mjs): the forced cells as the released guide's own fill.sh prints them over the translation d6dbe804f0581b65… (all of the seat's roots in one cut). By AI agents, Wed Nov 11 2026. No macro, syntax, notation, axiom, sorry.
-/
import Derived.Test.YtngfkajfbgfncaaChecked
import GoSem.Claim
import GoSem.ClaimJoined
import GoSem.ClaimMapViews
import Derived.JoinedTies
import Derived.KernelRfl
namespace Go.Proofs.Ytngfkajfbgfncaa
/- THE CELL 'sum', in the pinned program and in every row, IS THE sha256 OF THE DUMP (.gsa) THAT YtngfkajfbgfncaaProg.lean LOADS. Nothing in Lean hashes anything: it is a label: what it is worth is what the hold of that sum in a sandbox is worth. -/
noncomputable def Try.pinned : Pinned := { name := "ytngfkajfbgfncaa", sum := "d6dbe804f0581b653142163d8da459ccaa14f970ef0bc493d423ce5225faf1eb", checked := Try.checked }
namespace Rows
def none {H : Type} : Left H := { results := [], args := [] }

/-- 'laws.FnTableaux': WHATEVER THE INPUT: true; the input reads as it did. -/
def fnTableauxSpec : ChangeSpec := { name := "fnTableaux", fn := fun _ => fun
  | [d] => { results := [.lit (.bool true)], args := [d] }
  | _ => none }
def fnTableauxRow : OpenClaim := { program := "ytngfkajfbgfncaa", sum := "d6dbe804f0581b653142163d8da459ccaa14f970ef0bc493d423ce5225faf1eb", func := "loop.example/g03401/laws.FnTableaux", spec := "fnTableaux", apart := false }
def FnTableauxSaid : Prop := fnTableauxRow.holds Try.pinned (OpenSpec.ofChange fnTableauxSpec)

/-- ITS FALSE NEIGHBOUR: 'it returns false'. Refute it at one input. -/
def fnTableauxWrong : ChangeSpec := { name := "fnTableaux", fn := fun _ => fun
  | [d] => { results := [.lit (.bool false)], args := [d] }
  | _ => none }
def FnTableauxWrongFalsely : Prop := fnTableauxRow.holds Try.pinned (OpenSpec.ofChange fnTableauxWrong)

/-- 'laws.FnBrackets': WHATEVER THE INPUT: true; the input reads as it did. -/
def fnBracketsSpec : ChangeSpec := { name := "fnBrackets", fn := fun _ => fun
  | [d] => { results := [.lit (.bool true)], args := [d] }
  | _ => none }
def fnBracketsRow : OpenClaim := { program := "ytngfkajfbgfncaa", sum := "d6dbe804f0581b653142163d8da459ccaa14f970ef0bc493d423ce5225faf1eb", func := "loop.example/g03401/laws.FnBrackets", spec := "fnBrackets", apart := false }
def FnBracketsSaid : Prop := fnBracketsRow.holds Try.pinned (OpenSpec.ofChange fnBracketsSpec)

/-- ITS FALSE NEIGHBOUR: 'it returns false'. Refute it at one input. -/
def fnBracketsWrong : ChangeSpec := { name := "fnBrackets", fn := fun _ => fun
  | [d] => { results := [.lit (.bool false)], args := [d] }
  | _ => none }
def FnBracketsWrongFalsely : Prop := fnBracketsRow.holds Try.pinned (OpenSpec.ofChange fnBracketsWrong)

/-- 'laws.FnPermutations': WHATEVER THE INPUT: true; the input reads as it did. -/
def fnPermutationsSpec : ChangeSpec := { name := "fnPermutations", fn := fun _ => fun
  | [d] => { results := [.lit (.bool true)], args := [d] }
  | _ => none }
def fnPermutationsRow : OpenClaim := { program := "ytngfkajfbgfncaa", sum := "d6dbe804f0581b653142163d8da459ccaa14f970ef0bc493d423ce5225faf1eb", func := "loop.example/g03401/laws.FnPermutations", spec := "fnPermutations", unfollowed := true, recurses := true, apart := false }
def FnPermutationsSaid : Prop := fnPermutationsRow.holds Try.pinned (OpenSpec.ofChange fnPermutationsSpec)

/-- ITS FALSE NEIGHBOUR: 'it returns false'. Refute it at one input. -/
def fnPermutationsWrong : ChangeSpec := { name := "fnPermutations", fn := fun _ => fun
  | [d] => { results := [.lit (.bool false)], args := [d] }
  | _ => none }
def FnPermutationsWrongFalsely : Prop := fnPermutationsRow.holds Try.pinned (OpenSpec.ofChange fnPermutationsWrong)

/-- 'laws.FnPartitions': WHATEVER THE INPUT: true; the input reads as it did. -/
def fnPartitionsSpec : ChangeSpec := { name := "fnPartitions", fn := fun _ => fun
  | [d] => { results := [.lit (.bool true)], args := [d] }
  | _ => none }
def fnPartitionsRow : OpenClaim := { program := "ytngfkajfbgfncaa", sum := "d6dbe804f0581b653142163d8da459ccaa14f970ef0bc493d423ce5225faf1eb", func := "loop.example/g03401/laws.FnPartitions", spec := "fnPartitions", unfollowed := true, recurses := true, apart := false }
def FnPartitionsSaid : Prop := fnPartitionsRow.holds Try.pinned (OpenSpec.ofChange fnPartitionsSpec)

/-- ITS FALSE NEIGHBOUR: 'it returns false'. Refute it at one input. -/
def fnPartitionsWrong : ChangeSpec := { name := "fnPartitions", fn := fun _ => fun
  | [d] => { results := [.lit (.bool false)], args := [d] }
  | _ => none }
def FnPartitionsWrongFalsely : Prop := fnPartitionsRow.holds Try.pinned (OpenSpec.ofChange fnPartitionsWrong)

/-- 'laws.FnMatchings': WHATEVER THE INPUT: true; the input reads as it did. -/
def fnMatchingsSpec : ChangeSpec := { name := "fnMatchings", fn := fun _ => fun
  | [d] => { results := [.lit (.bool true)], args := [d] }
  | _ => none }
def fnMatchingsRow : OpenClaim := { program := "ytngfkajfbgfncaa", sum := "d6dbe804f0581b653142163d8da459ccaa14f970ef0bc493d423ce5225faf1eb", func := "loop.example/g03401/laws.FnMatchings", spec := "fnMatchings", apart := false }
def FnMatchingsSaid : Prop := fnMatchingsRow.holds Try.pinned (OpenSpec.ofChange fnMatchingsSpec)

/-- ITS FALSE NEIGHBOUR: 'it returns false'. Refute it at one input. -/
def fnMatchingsWrong : ChangeSpec := { name := "fnMatchings", fn := fun _ => fun
  | [d] => { results := [.lit (.bool false)], args := [d] }
  | _ => none }
def FnMatchingsWrongFalsely : Prop := fnMatchingsRow.holds Try.pinned (OpenSpec.ofChange fnMatchingsWrong)

/-- 'laws.FnExactAreEquidistributed': WHATEVER THE INPUT: true; the input reads as it did. -/
def fnExactAreEquidistributedSpec : ChangeSpec := { name := "fnExactAreEquidistributed", fn := fun _ => fun
  | [d1, d2, d3] => { results := [.lit (.bool true)], args := [d1, d2, d3] }
  | _ => none }
def fnExactAreEquidistributedRow : OpenClaim := { program := "ytngfkajfbgfncaa", sum := "d6dbe804f0581b653142163d8da459ccaa14f970ef0bc493d423ce5225faf1eb", func := "loop.example/g03401/laws.FnExactAreEquidistributed", spec := "fnExactAreEquidistributed", unfollowed := true, recurses := true, apart := false }
def FnExactAreEquidistributedSaid : Prop := fnExactAreEquidistributedRow.holds Try.pinned (OpenSpec.ofChange fnExactAreEquidistributedSpec)

/-- ITS FALSE NEIGHBOUR: 'it returns false'. Refute it at one input. -/
def fnExactAreEquidistributedWrong : ChangeSpec := { name := "fnExactAreEquidistributed", fn := fun _ => fun
  | [d1, d2, d3] => { results := [.lit (.bool false)], args := [d1, d2, d3] }
  | _ => none }
def FnExactAreEquidistributedWrongFalsely : Prop := fnExactAreEquidistributedRow.holds Try.pinned (OpenSpec.ofChange fnExactAreEquidistributedWrong)

/-- 'laws.FnExactIsJointlySymmetric': WHATEVER THE INPUT: true; the input reads as it did. -/
def fnExactIsJointlySymmetricSpec : ChangeSpec := { name := "fnExactIsJointlySymmetric", fn := fun _ => fun
  | [d1, d2, d3] => { results := [.lit (.bool true)], args := [d1, d2, d3] }
  | _ => none }
def fnExactIsJointlySymmetricRow : OpenClaim := { program := "ytngfkajfbgfncaa", sum := "d6dbe804f0581b653142163d8da459ccaa14f970ef0bc493d423ce5225faf1eb", func := "loop.example/g03401/laws.FnExactIsJointlySymmetric", spec := "fnExactIsJointlySymmetric", unfollowed := true, recurses := true, apart := false }
def FnExactIsJointlySymmetricSaid : Prop := fnExactIsJointlySymmetricRow.holds Try.pinned (OpenSpec.ofChange fnExactIsJointlySymmetricSpec)

/-- ITS FALSE NEIGHBOUR: 'it returns false'. Refute it at one input. -/
def fnExactIsJointlySymmetricWrong : ChangeSpec := { name := "fnExactIsJointlySymmetric", fn := fun _ => fun
  | [d1, d2, d3] => { results := [.lit (.bool false)], args := [d1, d2, d3] }
  | _ => none }
def FnExactIsJointlySymmetricWrongFalsely : Prop := fnExactIsJointlySymmetricRow.holds Try.pinned (OpenSpec.ofChange fnExactIsJointlySymmetricWrong)

/-- 'laws.FnExactJointTable': WHATEVER THE INPUT: true; the input reads as it did. -/
def fnExactJointTableSpec : ChangeSpec := { name := "fnExactJointTable", fn := fun _ => fun
  | [d1, d2, d3] => { results := [.lit (.bool true)], args := [d1, d2, d3] }
  | _ => none }
def fnExactJointTableRow : OpenClaim := { program := "ytngfkajfbgfncaa", sum := "d6dbe804f0581b653142163d8da459ccaa14f970ef0bc493d423ce5225faf1eb", func := "loop.example/g03401/laws.FnExactJointTable", spec := "fnExactJointTable", unfollowed := true, recurses := true, apart := false }
def FnExactJointTableSaid : Prop := fnExactJointTableRow.holds Try.pinned (OpenSpec.ofChange fnExactJointTableSpec)

/-- ITS FALSE NEIGHBOUR: 'it returns false'. Refute it at one input. -/
def fnExactJointTableWrong : ChangeSpec := { name := "fnExactJointTable", fn := fun _ => fun
  | [d1, d2, d3] => { results := [.lit (.bool false)], args := [d1, d2, d3] }
  | _ => none }
def FnExactJointTableWrongFalsely : Prop := fnExactJointTableRow.holds Try.pinned (OpenSpec.ofChange fnExactJointTableWrong)

/-- 'laws.FnParking': WHATEVER THE INPUT: true; the input reads as it did. -/
def fnParkingSpec : ChangeSpec := { name := "fnParking", fn := fun _ => fun
  | [d] => { results := [.lit (.bool true)], args := [d] }
  | _ => none }
def fnParkingRow : OpenClaim := { program := "ytngfkajfbgfncaa", sum := "d6dbe804f0581b653142163d8da459ccaa14f970ef0bc493d423ce5225faf1eb", func := "loop.example/g03401/laws.FnParking", spec := "fnParking", recurses := true, apart := false }
def FnParkingSaid : Prop := fnParkingRow.holds Try.pinned (OpenSpec.ofChange fnParkingSpec)

/-- ITS FALSE NEIGHBOUR: 'it returns false'. Refute it at one input. -/
def fnParkingWrong : ChangeSpec := { name := "fnParking", fn := fun _ => fun
  | [d] => { results := [.lit (.bool false)], args := [d] }
  | _ => none }
def FnParkingWrongFalsely : Prop := fnParkingRow.holds Try.pinned (OpenSpec.ofChange fnParkingWrong)

/-- 'laws.FnTriangles': WHATEVER THE INPUT: true; the input reads as it did. -/
def fnTrianglesSpec : ChangeSpec := { name := "fnTriangles", fn := fun _ => fun
  | [d] => { results := [.lit (.bool true)], args := [d] }
  | _ => none }
def fnTrianglesRow : OpenClaim := { program := "ytngfkajfbgfncaa", sum := "d6dbe804f0581b653142163d8da459ccaa14f970ef0bc493d423ce5225faf1eb", func := "loop.example/g03401/laws.FnTriangles", spec := "fnTriangles", unfollowed := true, recurses := true, apart := false }
def FnTrianglesSaid : Prop := fnTrianglesRow.holds Try.pinned (OpenSpec.ofChange fnTrianglesSpec)

/-- ITS FALSE NEIGHBOUR: 'it returns false'. Refute it at one input. -/
def fnTrianglesWrong : ChangeSpec := { name := "fnTriangles", fn := fun _ => fun
  | [d] => { results := [.lit (.bool false)], args := [d] }
  | _ => none }
def FnTrianglesWrongFalsely : Prop := fnTrianglesRow.holds Try.pinned (OpenSpec.ofChange fnTrianglesWrong)

/- THE SECOND FORM. 'bulk': how many values and letters a reading holds, each counted each time it is reached (what is shared counts as often as it is met; a slice's spare places count too). A statement '..UptoSaid' is the law's where the arguments, and the package variables that the reading takes, are together of bulk at most 1048576: NARROWER than '..Said'. Prove '..Said' where nothing that the law and all that it calls make is longer than what came in: it says more and counts as full. Else prove '..UptoSaid'. A law counts once. -/
mutual
def uptoBulk {H : Type} : DataW H → Nat
  | .lit (.string bytes) => bytes.length + 1
  | .lit _ => 1
  | .nil => 1
  | .ptr d => uptoBulk d + 1
  | .slice elems spare => uptoBulkAll elems + uptoBulkAll spare + 1
  | .agg parts => uptoBulkAll parts + 1
  | .iface _ d => uptoBulk d + 1
  | .map entries => uptoBulkEntries entries + 1
  | .held _ => 1
def uptoBulkAll {H : Type} : List (DataW H) → Nat
  | [] => 0
  | d :: r => uptoBulk d + uptoBulkAll r
def uptoBulkEntries {H : Type} : List (Lit × DataW H) → Nat
  | [] => 0
  | x :: r => uptoBulkEntry x + uptoBulkEntries r
def uptoBulkEntry {H : Type} : Lit × DataW H → Nat
  | (.string bytes, d) => bytes.length + uptoBulk d + 1
  | (_, d) => uptoBulk d + 1
 end
def uptoSmall : (H : Type) → List (DataW H) → Bool := fun _ ds => decide (uptoBulkAll ds ≤ 1048576)
def OpenSpec.upto (s : _root_.Go.ChangeSpec) : _root_.Go.OpenSpec := { _root_.Go.OpenSpec.ofChange s with cond := some uptoSmall }

/-- 'laws.FnTableaux', WHERE WHAT IT READS IS OF BULK AT MOST 1048576: true; the input reads as it did. -/
def fnTableauxUptoRow : OpenClaim := { program := "ytngfkajfbgfncaa", sum := "d6dbe804f0581b653142163d8da459ccaa14f970ef0bc493d423ce5225faf1eb", func := "loop.example/g03401/laws.FnTableaux", spec := "fnTableaux", apart := false, narrowed := true }
def FnTableauxUptoSaid : Prop := fnTableauxUptoRow.holds Try.pinned (OpenSpec.upto fnTableauxSpec)

/-- 'laws.FnBrackets', WHERE WHAT IT READS IS OF BULK AT MOST 1048576: true; the input reads as it did. -/
def fnBracketsUptoRow : OpenClaim := { program := "ytngfkajfbgfncaa", sum := "d6dbe804f0581b653142163d8da459ccaa14f970ef0bc493d423ce5225faf1eb", func := "loop.example/g03401/laws.FnBrackets", spec := "fnBrackets", apart := false, narrowed := true }
def FnBracketsUptoSaid : Prop := fnBracketsUptoRow.holds Try.pinned (OpenSpec.upto fnBracketsSpec)

/-- 'laws.FnPermutations', WHERE WHAT IT READS IS OF BULK AT MOST 1048576: true; the input reads as it did. -/
def fnPermutationsUptoRow : OpenClaim := { program := "ytngfkajfbgfncaa", sum := "d6dbe804f0581b653142163d8da459ccaa14f970ef0bc493d423ce5225faf1eb", func := "loop.example/g03401/laws.FnPermutations", spec := "fnPermutations", unfollowed := true, recurses := true, apart := false, narrowed := true }
def FnPermutationsUptoSaid : Prop := fnPermutationsUptoRow.holds Try.pinned (OpenSpec.upto fnPermutationsSpec)

/-- 'laws.FnPartitions', WHERE WHAT IT READS IS OF BULK AT MOST 1048576: true; the input reads as it did. -/
def fnPartitionsUptoRow : OpenClaim := { program := "ytngfkajfbgfncaa", sum := "d6dbe804f0581b653142163d8da459ccaa14f970ef0bc493d423ce5225faf1eb", func := "loop.example/g03401/laws.FnPartitions", spec := "fnPartitions", unfollowed := true, recurses := true, apart := false, narrowed := true }
def FnPartitionsUptoSaid : Prop := fnPartitionsUptoRow.holds Try.pinned (OpenSpec.upto fnPartitionsSpec)

/-- 'laws.FnMatchings', WHERE WHAT IT READS IS OF BULK AT MOST 1048576: true; the input reads as it did. -/
def fnMatchingsUptoRow : OpenClaim := { program := "ytngfkajfbgfncaa", sum := "d6dbe804f0581b653142163d8da459ccaa14f970ef0bc493d423ce5225faf1eb", func := "loop.example/g03401/laws.FnMatchings", spec := "fnMatchings", apart := false, narrowed := true }
def FnMatchingsUptoSaid : Prop := fnMatchingsUptoRow.holds Try.pinned (OpenSpec.upto fnMatchingsSpec)

/-- 'laws.FnExactAreEquidistributed', WHERE WHAT IT READS IS OF BULK AT MOST 1048576: true; the input reads as it did. -/
def fnExactAreEquidistributedUptoRow : OpenClaim := { program := "ytngfkajfbgfncaa", sum := "d6dbe804f0581b653142163d8da459ccaa14f970ef0bc493d423ce5225faf1eb", func := "loop.example/g03401/laws.FnExactAreEquidistributed", spec := "fnExactAreEquidistributed", unfollowed := true, recurses := true, apart := false, narrowed := true }
def FnExactAreEquidistributedUptoSaid : Prop := fnExactAreEquidistributedUptoRow.holds Try.pinned (OpenSpec.upto fnExactAreEquidistributedSpec)

/-- 'laws.FnExactIsJointlySymmetric', WHERE WHAT IT READS IS OF BULK AT MOST 1048576: true; the input reads as it did. -/
def fnExactIsJointlySymmetricUptoRow : OpenClaim := { program := "ytngfkajfbgfncaa", sum := "d6dbe804f0581b653142163d8da459ccaa14f970ef0bc493d423ce5225faf1eb", func := "loop.example/g03401/laws.FnExactIsJointlySymmetric", spec := "fnExactIsJointlySymmetric", unfollowed := true, recurses := true, apart := false, narrowed := true }
def FnExactIsJointlySymmetricUptoSaid : Prop := fnExactIsJointlySymmetricUptoRow.holds Try.pinned (OpenSpec.upto fnExactIsJointlySymmetricSpec)

/-- 'laws.FnExactJointTable', WHERE WHAT IT READS IS OF BULK AT MOST 1048576: true; the input reads as it did. -/
def fnExactJointTableUptoRow : OpenClaim := { program := "ytngfkajfbgfncaa", sum := "d6dbe804f0581b653142163d8da459ccaa14f970ef0bc493d423ce5225faf1eb", func := "loop.example/g03401/laws.FnExactJointTable", spec := "fnExactJointTable", unfollowed := true, recurses := true, apart := false, narrowed := true }
def FnExactJointTableUptoSaid : Prop := fnExactJointTableUptoRow.holds Try.pinned (OpenSpec.upto fnExactJointTableSpec)

/-- 'laws.FnParking', WHERE WHAT IT READS IS OF BULK AT MOST 1048576: true; the input reads as it did. -/
def fnParkingUptoRow : OpenClaim := { program := "ytngfkajfbgfncaa", sum := "d6dbe804f0581b653142163d8da459ccaa14f970ef0bc493d423ce5225faf1eb", func := "loop.example/g03401/laws.FnParking", spec := "fnParking", recurses := true, apart := false, narrowed := true }
def FnParkingUptoSaid : Prop := fnParkingUptoRow.holds Try.pinned (OpenSpec.upto fnParkingSpec)

/-- 'laws.FnTriangles', WHERE WHAT IT READS IS OF BULK AT MOST 1048576: true; the input reads as it did. -/
def fnTrianglesUptoRow : OpenClaim := { program := "ytngfkajfbgfncaa", sum := "d6dbe804f0581b653142163d8da459ccaa14f970ef0bc493d423ce5225faf1eb", func := "loop.example/g03401/laws.FnTriangles", spec := "fnTriangles", unfollowed := true, recurses := true, apart := false, narrowed := true }
def FnTrianglesUptoSaid : Prop := fnTrianglesUptoRow.holds Try.pinned (OpenSpec.upto fnTrianglesSpec)

end Rows
end Go.Proofs.Ytngfkajfbgfncaa
