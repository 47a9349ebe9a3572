/-
  No cell of these rows narrows 'for every input' (looked for: loops, veiled, ifaces, maps, wideKeys, modest, calm, conditions, laid).
  DERIVED. THE GIVEN ROWS OF THIS SEAT. 9 by the template 'for every input the law returns true; each argument reads behind the call as it read before'; 0 by the template 'total and deterministic' (their statements: YtnkkgfeegaiakaaTotals.lean).
  GIVEN WITH THE SEED: the statements are not yours to turn. If you find one false, say at which input.
  Laid BY PROGRAM, IN A SANDBOX (cutbox-rows.mjs): the forced cells as the released guide's own fill.sh prints them over the translation bc664b3fda0232bf… (all of the seat's roots in one cut). By AI agents, Wed Nov 11 2026. No macro, syntax, notation, axiom, sorry.
-/
import Derived.Test.YtnkkgfeegaiakaaChecked
import GoSem.Claim
import GoSem.ClaimJoined
import GoSem.ClaimMapViews
import Derived.JoinedTies
import Derived.KernelRfl
namespace Go.Proofs.Ytnkkgfeegaiakaa
/- THE CELL 'sum', in the pinned program and in every row, IS THE sha256 OF THE DUMP (.gsa) THAT YtnkkgfeegaiakaaProg.lean LOADS. Nothing in Lean hashes anything: it is a label: what it is worth is what the hold of that sum in a sandbox is worth. -/
noncomputable def Try.pinned : Pinned := { name := "ytnkkgfeegaiakaa", sum := "bc664b3fda0232bfa2f177334c41211ab112c1143696dabd9a8764416bdc2725", checked := Try.checked }
namespace Rows
def none {H : Type} : Left H := { results := [], args := [] }

/-- 'laws.FnExactTriangulationOf': WHATEVER THE INPUT: true; the input reads as it did. -/
def fnExactTriangulationOfSpec : ChangeSpec := { name := "fnExactTriangulationOf", fn := fun _ => fun
  | [d] => { results := [.lit (.bool true)], args := [d] }
  | _ => none }
def fnExactTriangulationOfRow : OpenClaim := { program := "ytnkkgfeegaiakaa", sum := "bc664b3fda0232bfa2f177334c41211ab112c1143696dabd9a8764416bdc2725", func := "loop.example/g03401/laws.FnExactTriangulationOf", spec := "fnExactTriangulationOf", unfollowed := true, recurses := true, apart := false }
def FnExactTriangulationOfSaid : Prop := fnExactTriangulationOfRow.holds Try.pinned (OpenSpec.ofChange fnExactTriangulationOfSpec)

/-- ITS FALSE NEIGHBOUR: 'it returns false'. Refute it at one input. -/
def fnExactTriangulationOfWrong : ChangeSpec := { name := "fnExactTriangulationOf", fn := fun _ => fun
  | [d] => { results := [.lit (.bool false)], args := [d] }
  | _ => none }
def FnExactTriangulationOfWrongFalsely : Prop := fnExactTriangulationOfRow.holds Try.pinned (OpenSpec.ofChange fnExactTriangulationOfWrong)

/-- 'laws.FnExactTrianglesOf': WHATEVER THE INPUT: true; the input reads as it did. -/
def fnExactTrianglesOfSpec : ChangeSpec := { name := "fnExactTrianglesOf", fn := fun _ => fun
  | [d1, d2] => { results := [.lit (.bool true)], args := [d1, d2] }
  | _ => none }
def fnExactTrianglesOfRow : OpenClaim := { program := "ytnkkgfeegaiakaa", sum := "bc664b3fda0232bfa2f177334c41211ab112c1143696dabd9a8764416bdc2725", func := "loop.example/g03401/laws.FnExactTrianglesOf", spec := "fnExactTrianglesOf", unfollowed := true, recurses := true, apart := false }
def FnExactTrianglesOfSaid : Prop := fnExactTrianglesOfRow.holds Try.pinned (OpenSpec.ofChange fnExactTrianglesOfSpec)

/-- ITS FALSE NEIGHBOUR: 'it returns false'. Refute it at one input. -/
def fnExactTrianglesOfWrong : ChangeSpec := { name := "fnExactTrianglesOf", fn := fun _ => fun
  | [d1, d2] => { results := [.lit (.bool false)], args := [d1, d2] }
  | _ => none }
def FnExactTrianglesOfWrongFalsely : Prop := fnExactTrianglesOfRow.holds Try.pinned (OpenSpec.ofChange fnExactTrianglesOfWrong)

/-- 'laws.FnTableaux': WHATEVER THE INPUT: true; the input reads as it did. -/
def fnTableauxSpec : ChangeSpec := { name := "fnTableaux", fn := fun _ => fun
  | [d] => { results := [.lit (.bool true)], args := [d] }
  | _ => none }
def fnTableauxRow : OpenClaim := { program := "ytnkkgfeegaiakaa", sum := "bc664b3fda0232bfa2f177334c41211ab112c1143696dabd9a8764416bdc2725", func := "loop.example/g03401/laws.FnTableaux", spec := "fnTableaux", apart := false }
def FnTableauxSaid : Prop := fnTableauxRow.holds Try.pinned (OpenSpec.ofChange fnTableauxSpec)

/-- ITS FALSE NEIGHBOUR: 'it returns false'. Refute it at one input. -/
def fnTableauxWrong : ChangeSpec := { name := "fnTableaux", fn := fun _ => fun
  | [d] => { results := [.lit (.bool false)], args := [d] }
  | _ => none }
def FnTableauxWrongFalsely : Prop := fnTableauxRow.holds Try.pinned (OpenSpec.ofChange fnTableauxWrong)

/-- 'laws.FnBrackets': WHATEVER THE INPUT: true; the input reads as it did. -/
def fnBracketsSpec : ChangeSpec := { name := "fnBrackets", fn := fun _ => fun
  | [d] => { results := [.lit (.bool true)], args := [d] }
  | _ => none }
def fnBracketsRow : OpenClaim := { program := "ytnkkgfeegaiakaa", sum := "bc664b3fda0232bfa2f177334c41211ab112c1143696dabd9a8764416bdc2725", func := "loop.example/g03401/laws.FnBrackets", spec := "fnBrackets", apart := false }
def FnBracketsSaid : Prop := fnBracketsRow.holds Try.pinned (OpenSpec.ofChange fnBracketsSpec)

/-- ITS FALSE NEIGHBOUR: 'it returns false'. Refute it at one input. -/
def fnBracketsWrong : ChangeSpec := { name := "fnBrackets", fn := fun _ => fun
  | [d] => { results := [.lit (.bool false)], args := [d] }
  | _ => none }
def FnBracketsWrongFalsely : Prop := fnBracketsRow.holds Try.pinned (OpenSpec.ofChange fnBracketsWrong)

/-- 'laws.FnPermutations': WHATEVER THE INPUT: true; the input reads as it did. -/
def fnPermutationsSpec : ChangeSpec := { name := "fnPermutations", fn := fun _ => fun
  | [d] => { results := [.lit (.bool true)], args := [d] }
  | _ => none }
def fnPermutationsRow : OpenClaim := { program := "ytnkkgfeegaiakaa", sum := "bc664b3fda0232bfa2f177334c41211ab112c1143696dabd9a8764416bdc2725", func := "loop.example/g03401/laws.FnPermutations", spec := "fnPermutations", unfollowed := true, recurses := true, apart := false }
def FnPermutationsSaid : Prop := fnPermutationsRow.holds Try.pinned (OpenSpec.ofChange fnPermutationsSpec)

/-- ITS FALSE NEIGHBOUR: 'it returns false'. Refute it at one input. -/
def fnPermutationsWrong : ChangeSpec := { name := "fnPermutations", fn := fun _ => fun
  | [d] => { results := [.lit (.bool false)], args := [d] }
  | _ => none }
def FnPermutationsWrongFalsely : Prop := fnPermutationsRow.holds Try.pinned (OpenSpec.ofChange fnPermutationsWrong)

/-- 'laws.FnPartitions': WHATEVER THE INPUT: true; the input reads as it did. -/
def fnPartitionsSpec : ChangeSpec := { name := "fnPartitions", fn := fun _ => fun
  | [d] => { results := [.lit (.bool true)], args := [d] }
  | _ => none }
def fnPartitionsRow : OpenClaim := { program := "ytnkkgfeegaiakaa", sum := "bc664b3fda0232bfa2f177334c41211ab112c1143696dabd9a8764416bdc2725", func := "loop.example/g03401/laws.FnPartitions", spec := "fnPartitions", unfollowed := true, recurses := true, apart := false }
def FnPartitionsSaid : Prop := fnPartitionsRow.holds Try.pinned (OpenSpec.ofChange fnPartitionsSpec)

/-- ITS FALSE NEIGHBOUR: 'it returns false'. Refute it at one input. -/
def fnPartitionsWrong : ChangeSpec := { name := "fnPartitions", fn := fun _ => fun
  | [d] => { results := [.lit (.bool false)], args := [d] }
  | _ => none }
def FnPartitionsWrongFalsely : Prop := fnPartitionsRow.holds Try.pinned (OpenSpec.ofChange fnPartitionsWrong)

/-- 'laws.FnMatchings': WHATEVER THE INPUT: true; the input reads as it did. -/
def fnMatchingsSpec : ChangeSpec := { name := "fnMatchings", fn := fun _ => fun
  | [d] => { results := [.lit (.bool true)], args := [d] }
  | _ => none }
def fnMatchingsRow : OpenClaim := { program := "ytnkkgfeegaiakaa", sum := "bc664b3fda0232bfa2f177334c41211ab112c1143696dabd9a8764416bdc2725", func := "loop.example/g03401/laws.FnMatchings", spec := "fnMatchings", apart := false }
def FnMatchingsSaid : Prop := fnMatchingsRow.holds Try.pinned (OpenSpec.ofChange fnMatchingsSpec)

/-- ITS FALSE NEIGHBOUR: 'it returns false'. Refute it at one input. -/
def fnMatchingsWrong : ChangeSpec := { name := "fnMatchings", fn := fun _ => fun
  | [d] => { results := [.lit (.bool false)], args := [d] }
  | _ => none }
def FnMatchingsWrongFalsely : Prop := fnMatchingsRow.holds Try.pinned (OpenSpec.ofChange fnMatchingsWrong)

/-- 'laws.FnParking': WHATEVER THE INPUT: true; the input reads as it did. -/
def fnParkingSpec : ChangeSpec := { name := "fnParking", fn := fun _ => fun
  | [d] => { results := [.lit (.bool true)], args := [d] }
  | _ => none }
def fnParkingRow : OpenClaim := { program := "ytnkkgfeegaiakaa", sum := "bc664b3fda0232bfa2f177334c41211ab112c1143696dabd9a8764416bdc2725", func := "loop.example/g03401/laws.FnParking", spec := "fnParking", recurses := true, apart := false }
def FnParkingSaid : Prop := fnParkingRow.holds Try.pinned (OpenSpec.ofChange fnParkingSpec)

/-- ITS FALSE NEIGHBOUR: 'it returns false'. Refute it at one input. -/
def fnParkingWrong : ChangeSpec := { name := "fnParking", fn := fun _ => fun
  | [d] => { results := [.lit (.bool false)], args := [d] }
  | _ => none }
def FnParkingWrongFalsely : Prop := fnParkingRow.holds Try.pinned (OpenSpec.ofChange fnParkingWrong)

/-- 'laws.FnTriangles': WHATEVER THE INPUT: true; the input reads as it did. -/
def fnTrianglesSpec : ChangeSpec := { name := "fnTriangles", fn := fun _ => fun
  | [d] => { results := [.lit (.bool true)], args := [d] }
  | _ => none }
def fnTrianglesRow : OpenClaim := { program := "ytnkkgfeegaiakaa", sum := "bc664b3fda0232bfa2f177334c41211ab112c1143696dabd9a8764416bdc2725", func := "loop.example/g03401/laws.FnTriangles", spec := "fnTriangles", unfollowed := true, recurses := true, apart := false }
def FnTrianglesSaid : Prop := fnTrianglesRow.holds Try.pinned (OpenSpec.ofChange fnTrianglesSpec)

/-- ITS FALSE NEIGHBOUR: 'it returns false'. Refute it at one input. -/
def fnTrianglesWrong : ChangeSpec := { name := "fnTriangles", fn := fun _ => fun
  | [d] => { results := [.lit (.bool false)], args := [d] }
  | _ => none }
def FnTrianglesWrongFalsely : Prop := fnTrianglesRow.holds Try.pinned (OpenSpec.ofChange fnTrianglesWrong)

/- THE SECOND FORM. 'bulk': how many values and letters a reading holds, each counted each time it is reached (what is shared counts as often as it is met; a slice's spare places count too). A statement '..UptoSaid' is the law's where the arguments, and the package variables that the reading takes, are together of bulk at most 1048576: NARROWER than '..Said'. Prove '..Said' where nothing that the law and all that it calls make is longer than what came in: it says more and counts as full. Else prove '..UptoSaid'. A law counts once. -/
mutual
def uptoBulk {H : Type} : DataW H → Nat
  | .lit (.string bytes) => bytes.length + 1
  | .lit _ => 1
  | .nil => 1
  | .ptr d => uptoBulk d + 1
  | .slice elems spare => uptoBulkAll elems + uptoBulkAll spare + 1
  | .agg parts => uptoBulkAll parts + 1
  | .iface _ d => uptoBulk d + 1
  | .map entries => uptoBulkEntries entries + 1
  | .held _ => 1
def uptoBulkAll {H : Type} : List (DataW H) → Nat
  | [] => 0
  | d :: r => uptoBulk d + uptoBulkAll r
def uptoBulkEntries {H : Type} : List (Lit × DataW H) → Nat
  | [] => 0
  | x :: r => uptoBulkEntry x + uptoBulkEntries r
def uptoBulkEntry {H : Type} : Lit × DataW H → Nat
  | (.string bytes, d) => bytes.length + uptoBulk d + 1
  | (_, d) => uptoBulk d + 1
 end
def uptoSmall : (H : Type) → List (DataW H) → Bool := fun _ ds => decide (uptoBulkAll ds ≤ 1048576)
def OpenSpec.upto (s : _root_.Go.ChangeSpec) : _root_.Go.OpenSpec := { _root_.Go.OpenSpec.ofChange s with cond := some uptoSmall }

/-- 'laws.FnExactTriangulationOf', WHERE WHAT IT READS IS OF BULK AT MOST 1048576: true; the input reads as it did. -/
def fnExactTriangulationOfUptoRow : OpenClaim := { program := "ytnkkgfeegaiakaa", sum := "bc664b3fda0232bfa2f177334c41211ab112c1143696dabd9a8764416bdc2725", func := "loop.example/g03401/laws.FnExactTriangulationOf", spec := "fnExactTriangulationOf", unfollowed := true, recurses := true, apart := false, narrowed := true }
def FnExactTriangulationOfUptoSaid : Prop := fnExactTriangulationOfUptoRow.holds Try.pinned (OpenSpec.upto fnExactTriangulationOfSpec)

/-- 'laws.FnExactTrianglesOf', WHERE WHAT IT READS IS OF BULK AT MOST 1048576: true; the input reads as it did. -/
def fnExactTrianglesOfUptoRow : OpenClaim := { program := "ytnkkgfeegaiakaa", sum := "bc664b3fda0232bfa2f177334c41211ab112c1143696dabd9a8764416bdc2725", func := "loop.example/g03401/laws.FnExactTrianglesOf", spec := "fnExactTrianglesOf", unfollowed := true, recurses := true, apart := false, narrowed := true }
def FnExactTrianglesOfUptoSaid : Prop := fnExactTrianglesOfUptoRow.holds Try.pinned (OpenSpec.upto fnExactTrianglesOfSpec)

/-- 'laws.FnTableaux', WHERE WHAT IT READS IS OF BULK AT MOST 1048576: true; the input reads as it did. -/
def fnTableauxUptoRow : OpenClaim := { program := "ytnkkgfeegaiakaa", sum := "bc664b3fda0232bfa2f177334c41211ab112c1143696dabd9a8764416bdc2725", func := "loop.example/g03401/laws.FnTableaux", spec := "fnTableaux", apart := false, narrowed := true }
def FnTableauxUptoSaid : Prop := fnTableauxUptoRow.holds Try.pinned (OpenSpec.upto fnTableauxSpec)

/-- 'laws.FnBrackets', WHERE WHAT IT READS IS OF BULK AT MOST 1048576: true; the input reads as it did. -/
def fnBracketsUptoRow : OpenClaim := { program := "ytnkkgfeegaiakaa", sum := "bc664b3fda0232bfa2f177334c41211ab112c1143696dabd9a8764416bdc2725", func := "loop.example/g03401/laws.FnBrackets", spec := "fnBrackets", apart := false, narrowed := true }
def FnBracketsUptoSaid : Prop := fnBracketsUptoRow.holds Try.pinned (OpenSpec.upto fnBracketsSpec)

/-- 'laws.FnPermutations', WHERE WHAT IT READS IS OF BULK AT MOST 1048576: true; the input reads as it did. -/
def fnPermutationsUptoRow : OpenClaim := { program := "ytnkkgfeegaiakaa", sum := "bc664b3fda0232bfa2f177334c41211ab112c1143696dabd9a8764416bdc2725", func := "loop.example/g03401/laws.FnPermutations", spec := "fnPermutations", unfollowed := true, recurses := true, apart := false, narrowed := true }
def FnPermutationsUptoSaid : Prop := fnPermutationsUptoRow.holds Try.pinned (OpenSpec.upto fnPermutationsSpec)

/-- 'laws.FnPartitions', WHERE WHAT IT READS IS OF BULK AT MOST 1048576: true; the input reads as it did. -/
def fnPartitionsUptoRow : OpenClaim := { program := "ytnkkgfeegaiakaa", sum := "bc664b3fda0232bfa2f177334c41211ab112c1143696dabd9a8764416bdc2725", func := "loop.example/g03401/laws.FnPartitions", spec := "fnPartitions", unfollowed := true, recurses := true, apart := false, narrowed := true }
def FnPartitionsUptoSaid : Prop := fnPartitionsUptoRow.holds Try.pinned (OpenSpec.upto fnPartitionsSpec)

/-- 'laws.FnMatchings', WHERE WHAT IT READS IS OF BULK AT MOST 1048576: true; the input reads as it did. -/
def fnMatchingsUptoRow : OpenClaim := { program := "ytnkkgfeegaiakaa", sum := "bc664b3fda0232bfa2f177334c41211ab112c1143696dabd9a8764416bdc2725", func := "loop.example/g03401/laws.FnMatchings", spec := "fnMatchings", apart := false, narrowed := true }
def FnMatchingsUptoSaid : Prop := fnMatchingsUptoRow.holds Try.pinned (OpenSpec.upto fnMatchingsSpec)

/-- 'laws.FnParking', WHERE WHAT IT READS IS OF BULK AT MOST 1048576: true; the input reads as it did. -/
def fnParkingUptoRow : OpenClaim := { program := "ytnkkgfeegaiakaa", sum := "bc664b3fda0232bfa2f177334c41211ab112c1143696dabd9a8764416bdc2725", func := "loop.example/g03401/laws.FnParking", spec := "fnParking", recurses := true, apart := false, narrowed := true }
def FnParkingUptoSaid : Prop := fnParkingUptoRow.holds Try.pinned (OpenSpec.upto fnParkingSpec)

/-- 'laws.FnTriangles', WHERE WHAT IT READS IS OF BULK AT MOST 1048576: true; the input reads as it did. -/
def fnTrianglesUptoRow : OpenClaim := { program := "ytnkkgfeegaiakaa", sum := "bc664b3fda0232bfa2f177334c41211ab112c1143696dabd9a8764416bdc2725", func := "loop.example/g03401/laws.FnTriangles", spec := "fnTriangles", unfollowed := true, recurses := true, apart := false, narrowed := true }
def FnTrianglesUptoSaid : Prop := fnTrianglesUptoRow.holds Try.pinned (OpenSpec.upto fnTrianglesSpec)

end Rows
end Go.Proofs.Ytnkkgfeegaiakaa
