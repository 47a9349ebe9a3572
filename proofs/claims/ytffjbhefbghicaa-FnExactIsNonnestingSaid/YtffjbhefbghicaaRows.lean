/-
  No cell of these rows narrows 'for every input' (looked for: loops, veiled, ifaces, maps, wideKeys, modest, calm, conditions, laid).
  DERIVED. THE GIVEN ROWS OF THIS SEAT. 12 by the template 'for every input the law returns true; each argument reads behind the call as it read before'; 0 by the template 'total and deterministic' (their statements: YtffjbhefbghicaaTotals.lean).
  GIVEN WITH THE SEED: the statements are not yours to turn. If you find one false, say at which input.
  Laid BY PROGRAM, IN A SANDBOX (cutbox-rows.mjs): the forced cells as the released guide's own fill.sh prints them over the translation aa69abd9b6218b6e… (all of the seat's roots in one cut). By AI agents, Wed Nov 11 2026. No macro, syntax, notation, axiom, sorry.
-/
import Derived.Test.YtffjbhefbghicaaChecked
import GoSem.Claim
import GoSem.ClaimJoined
import GoSem.ClaimMapViews
import Derived.JoinedTies
import Derived.KernelRfl
namespace Go.Proofs.Ytffjbhefbghicaa
/- THE CELL 'sum', in the pinned program and in every row, IS THE sha256 OF THE DUMP (.gsa) THAT YtffjbhefbghicaaProg.lean LOADS. Nothing in Lean hashes anything: it is a label: what it is worth is what the hold of that sum in a sandbox is worth. -/
noncomputable def Try.pinned : Pinned := { name := "ytffjbhefbghicaa", sum := "aa69abd9b6218b6e0570cc7b998370a4bd33b1c0b220054cf8a81654c5674aa9", checked := Try.checked }
namespace Rows
def none {H : Type} : Left H := { results := [], args := [] }

/-- 'laws.FnExactContains321': WHATEVER THE INPUT: true; the input reads as it did. -/
def fnExactContains321Spec : ChangeSpec := { name := "fnExactContains321", fn := fun _ => fun
  | [d] => { results := [.lit (.bool true)], args := [d] }
  | _ => none }
def fnExactContains321Row : OpenClaim := { program := "ytffjbhefbghicaa", sum := "aa69abd9b6218b6e0570cc7b998370a4bd33b1c0b220054cf8a81654c5674aa9", func := "loop.example/g03401/laws.FnExactContains321", spec := "fnExactContains321", unfollowed := true, recurses := true, apart := false }
def FnExactContains321Said : Prop := fnExactContains321Row.holds Try.pinned (OpenSpec.ofChange fnExactContains321Spec)

/-- ITS FALSE NEIGHBOUR: 'it returns false'. Refute it at one input. -/
def fnExactContains321Wrong : ChangeSpec := { name := "fnExactContains321", fn := fun _ => fun
  | [d] => { results := [.lit (.bool false)], args := [d] }
  | _ => none }
def FnExactContains321WrongFalsely : Prop := fnExactContains321Row.holds Try.pinned (OpenSpec.ofChange fnExactContains321Wrong)

/-- 'laws.FnExactTurnMatching': WHATEVER THE INPUT: true; the input reads as it did. -/
def fnExactTurnMatchingSpec : ChangeSpec := { name := "fnExactTurnMatching", fn := fun _ => fun
  | [d1, d2] => { results := [.lit (.bool true)], args := [d1, d2] }
  | _ => none }
def fnExactTurnMatchingRow : OpenClaim := { program := "ytffjbhefbghicaa", sum := "aa69abd9b6218b6e0570cc7b998370a4bd33b1c0b220054cf8a81654c5674aa9", func := "loop.example/g03401/laws.FnExactTurnMatching", spec := "fnExactTurnMatching", apart := false }
def FnExactTurnMatchingSaid : Prop := fnExactTurnMatchingRow.holds Try.pinned (OpenSpec.ofChange fnExactTurnMatchingSpec)

/-- ITS FALSE NEIGHBOUR: 'it returns false'. Refute it at one input. -/
def fnExactTurnMatchingWrong : ChangeSpec := { name := "fnExactTurnMatching", fn := fun _ => fun
  | [d1, d2] => { results := [.lit (.bool false)], args := [d1, d2] }
  | _ => none }
def FnExactTurnMatchingWrongFalsely : Prop := fnExactTurnMatchingRow.holds Try.pinned (OpenSpec.ofChange fnExactTurnMatchingWrong)

/-- 'laws.FnExactIsNoncrossingMatching': WHATEVER THE INPUT: true; the input reads as it did. -/
def fnExactIsNoncrossingMatchingSpec : ChangeSpec := { name := "fnExactIsNoncrossingMatching", fn := fun _ => fun
  | [d] => { results := [.lit (.bool true)], args := [d] }
  | _ => none }
def fnExactIsNoncrossingMatchingRow : OpenClaim := { program := "ytffjbhefbghicaa", sum := "aa69abd9b6218b6e0570cc7b998370a4bd33b1c0b220054cf8a81654c5674aa9", func := "loop.example/g03401/laws.FnExactIsNoncrossingMatching", spec := "fnExactIsNoncrossingMatching", apart := false }
def FnExactIsNoncrossingMatchingSaid : Prop := fnExactIsNoncrossingMatchingRow.holds Try.pinned (OpenSpec.ofChange fnExactIsNoncrossingMatchingSpec)

/-- ITS FALSE NEIGHBOUR: 'it returns false'. Refute it at one input. -/
def fnExactIsNoncrossingMatchingWrong : ChangeSpec := { name := "fnExactIsNoncrossingMatching", fn := fun _ => fun
  | [d] => { results := [.lit (.bool false)], args := [d] }
  | _ => none }
def FnExactIsNoncrossingMatchingWrongFalsely : Prop := fnExactIsNoncrossingMatchingRow.holds Try.pinned (OpenSpec.ofChange fnExactIsNoncrossingMatchingWrong)

/-- 'laws.FnExactIsParking': WHATEVER THE INPUT: true; the input reads as it did. -/
def fnExactIsParkingSpec : ChangeSpec := { name := "fnExactIsParking", fn := fun _ => fun
  | [d] => { results := [.lit (.bool true)], args := [d] }
  | _ => none }
def fnExactIsParkingRow : OpenClaim := { program := "ytffjbhefbghicaa", sum := "aa69abd9b6218b6e0570cc7b998370a4bd33b1c0b220054cf8a81654c5674aa9", func := "loop.example/g03401/laws.FnExactIsParking", spec := "fnExactIsParking", apart := false }
def FnExactIsParkingSaid : Prop := fnExactIsParkingRow.holds Try.pinned (OpenSpec.ofChange fnExactIsParkingSpec)

/-- ITS FALSE NEIGHBOUR: 'it returns false'. Refute it at one input. -/
def fnExactIsParkingWrong : ChangeSpec := { name := "fnExactIsParking", fn := fun _ => fun
  | [d] => { results := [.lit (.bool false)], args := [d] }
  | _ => none }
def FnExactIsParkingWrongFalsely : Prop := fnExactIsParkingRow.holds Try.pinned (OpenSpec.ofChange fnExactIsParkingWrong)

/-- 'laws.FnExactRenumberBlocks': WHATEVER THE INPUT: true; the input reads as it did. -/
def fnExactRenumberBlocksSpec : ChangeSpec := { name := "fnExactRenumberBlocks", fn := fun _ => fun
  | [d] => { results := [.lit (.bool true)], args := [d] }
  | _ => none }
def fnExactRenumberBlocksRow : OpenClaim := { program := "ytffjbhefbghicaa", sum := "aa69abd9b6218b6e0570cc7b998370a4bd33b1c0b220054cf8a81654c5674aa9", func := "loop.example/g03401/laws.FnExactRenumberBlocks", spec := "fnExactRenumberBlocks", apart := false }
def FnExactRenumberBlocksSaid : Prop := fnExactRenumberBlocksRow.holds Try.pinned (OpenSpec.ofChange fnExactRenumberBlocksSpec)

/-- ITS FALSE NEIGHBOUR: 'it returns false'. Refute it at one input. -/
def fnExactRenumberBlocksWrong : ChangeSpec := { name := "fnExactRenumberBlocks", fn := fun _ => fun
  | [d] => { results := [.lit (.bool false)], args := [d] }
  | _ => none }
def FnExactRenumberBlocksWrongFalsely : Prop := fnExactRenumberBlocksRow.holds Try.pinned (OpenSpec.ofChange fnExactRenumberBlocksWrong)

/-- 'laws.FnExactInverseOf': WHATEVER THE INPUT: true; the input reads as it did. -/
def fnExactInverseOfSpec : ChangeSpec := { name := "fnExactInverseOf", fn := fun _ => fun
  | [d] => { results := [.lit (.bool true)], args := [d] }
  | _ => none }
def fnExactInverseOfRow : OpenClaim := { program := "ytffjbhefbghicaa", sum := "aa69abd9b6218b6e0570cc7b998370a4bd33b1c0b220054cf8a81654c5674aa9", func := "loop.example/g03401/laws.FnExactInverseOf", spec := "fnExactInverseOf", apart := false }
def FnExactInverseOfSaid : Prop := fnExactInverseOfRow.holds Try.pinned (OpenSpec.ofChange fnExactInverseOfSpec)

/-- ITS FALSE NEIGHBOUR: 'it returns false'. Refute it at one input. -/
def fnExactInverseOfWrong : ChangeSpec := { name := "fnExactInverseOf", fn := fun _ => fun
  | [d] => { results := [.lit (.bool false)], args := [d] }
  | _ => none }
def FnExactInverseOfWrongFalsely : Prop := fnExactInverseOfRow.holds Try.pinned (OpenSpec.ofChange fnExactInverseOfWrong)

/-- 'laws.FnExactPlacesOf': WHATEVER THE INPUT: true; the input reads as it did. -/
def fnExactPlacesOfSpec : ChangeSpec := { name := "fnExactPlacesOf", fn := fun _ => fun
  | [d] => { results := [.lit (.bool true)], args := [d] }
  | _ => none }
def fnExactPlacesOfRow : OpenClaim := { program := "ytffjbhefbghicaa", sum := "aa69abd9b6218b6e0570cc7b998370a4bd33b1c0b220054cf8a81654c5674aa9", func := "loop.example/g03401/laws.FnExactPlacesOf", spec := "fnExactPlacesOf", apart := false }
def FnExactPlacesOfSaid : Prop := fnExactPlacesOfRow.holds Try.pinned (OpenSpec.ofChange fnExactPlacesOfSpec)

/-- ITS FALSE NEIGHBOUR: 'it returns false'. Refute it at one input. -/
def fnExactPlacesOfWrong : ChangeSpec := { name := "fnExactPlacesOf", fn := fun _ => fun
  | [d] => { results := [.lit (.bool false)], args := [d] }
  | _ => none }
def FnExactPlacesOfWrongFalsely : Prop := fnExactPlacesOfRow.holds Try.pinned (OpenSpec.ofChange fnExactPlacesOfWrong)

/-- 'laws.FnExactDisplacementOf': WHATEVER THE INPUT: true; the input reads as it did. -/
def fnExactDisplacementOfSpec : ChangeSpec := { name := "fnExactDisplacementOf", fn := fun _ => fun
  | [d] => { results := [.lit (.bool true)], args := [d] }
  | _ => none }
def fnExactDisplacementOfRow : OpenClaim := { program := "ytffjbhefbghicaa", sum := "aa69abd9b6218b6e0570cc7b998370a4bd33b1c0b220054cf8a81654c5674aa9", func := "loop.example/g03401/laws.FnExactDisplacementOf", spec := "fnExactDisplacementOf", apart := false }
def FnExactDisplacementOfSaid : Prop := fnExactDisplacementOfRow.holds Try.pinned (OpenSpec.ofChange fnExactDisplacementOfSpec)

/-- ITS FALSE NEIGHBOUR: 'it returns false'. Refute it at one input. -/
def fnExactDisplacementOfWrong : ChangeSpec := { name := "fnExactDisplacementOf", fn := fun _ => fun
  | [d] => { results := [.lit (.bool false)], args := [d] }
  | _ => none }
def FnExactDisplacementOfWrongFalsely : Prop := fnExactDisplacementOfRow.holds Try.pinned (OpenSpec.ofChange fnExactDisplacementOfWrong)

/-- 'laws.FnExactLuckyOf': WHATEVER THE INPUT: true; the input reads as it did. -/
def fnExactLuckyOfSpec : ChangeSpec := { name := "fnExactLuckyOf", fn := fun _ => fun
  | [d] => { results := [.lit (.bool true)], args := [d] }
  | _ => none }
def fnExactLuckyOfRow : OpenClaim := { program := "ytffjbhefbghicaa", sum := "aa69abd9b6218b6e0570cc7b998370a4bd33b1c0b220054cf8a81654c5674aa9", func := "loop.example/g03401/laws.FnExactLuckyOf", spec := "fnExactLuckyOf", apart := false }
def FnExactLuckyOfSaid : Prop := fnExactLuckyOfRow.holds Try.pinned (OpenSpec.ofChange fnExactLuckyOfSpec)

/-- ITS FALSE NEIGHBOUR: 'it returns false'. Refute it at one input. -/
def fnExactLuckyOfWrong : ChangeSpec := { name := "fnExactLuckyOf", fn := fun _ => fun
  | [d] => { results := [.lit (.bool false)], args := [d] }
  | _ => none }
def FnExactLuckyOfWrongFalsely : Prop := fnExactLuckyOfRow.holds Try.pinned (OpenSpec.ofChange fnExactLuckyOfWrong)

/-- 'laws.FnExactIsNonnesting': WHATEVER THE INPUT: true; the input reads as it did. -/
def fnExactIsNonnestingSpec : ChangeSpec := { name := "fnExactIsNonnesting", fn := fun _ => fun
  | [d] => { results := [.lit (.bool true)], args := [d] }
  | _ => none }
def fnExactIsNonnestingRow : OpenClaim := { program := "ytffjbhefbghicaa", sum := "aa69abd9b6218b6e0570cc7b998370a4bd33b1c0b220054cf8a81654c5674aa9", func := "loop.example/g03401/laws.FnExactIsNonnesting", spec := "fnExactIsNonnesting", unfollowed := true, recurses := true, apart := false }
def FnExactIsNonnestingSaid : Prop := fnExactIsNonnestingRow.holds Try.pinned (OpenSpec.ofChange fnExactIsNonnestingSpec)

/-- ITS FALSE NEIGHBOUR: 'it returns false'. Refute it at one input. -/
def fnExactIsNonnestingWrong : ChangeSpec := { name := "fnExactIsNonnesting", fn := fun _ => fun
  | [d] => { results := [.lit (.bool false)], args := [d] }
  | _ => none }
def FnExactIsNonnestingWrongFalsely : Prop := fnExactIsNonnestingRow.holds Try.pinned (OpenSpec.ofChange fnExactIsNonnestingWrong)

/-- 'laws.FnExactIsTableau': WHATEVER THE INPUT: true; the input reads as it did. -/
def fnExactIsTableauSpec : ChangeSpec := { name := "fnExactIsTableau", fn := fun _ => fun
  | [d] => { results := [.lit (.bool true)], args := [d] }
  | _ => none }
def fnExactIsTableauRow : OpenClaim := { program := "ytffjbhefbghicaa", sum := "aa69abd9b6218b6e0570cc7b998370a4bd33b1c0b220054cf8a81654c5674aa9", func := "loop.example/g03401/laws.FnExactIsTableau", spec := "fnExactIsTableau", apart := false }
def FnExactIsTableauSaid : Prop := fnExactIsTableauRow.holds Try.pinned (OpenSpec.ofChange fnExactIsTableauSpec)

/-- ITS FALSE NEIGHBOUR: 'it returns false'. Refute it at one input. -/
def fnExactIsTableauWrong : ChangeSpec := { name := "fnExactIsTableau", fn := fun _ => fun
  | [d] => { results := [.lit (.bool false)], args := [d] }
  | _ => none }
def FnExactIsTableauWrongFalsely : Prop := fnExactIsTableauRow.holds Try.pinned (OpenSpec.ofChange fnExactIsTableauWrong)

/-- 'laws.FnExactParkingsOver': WHATEVER THE INPUT: true; the input reads as it did. -/
def fnExactParkingsOverSpec : ChangeSpec := { name := "fnExactParkingsOver", fn := fun _ => fun
  | [d] => { results := [.lit (.bool true)], args := [d] }
  | _ => none }
def fnExactParkingsOverRow : OpenClaim := { program := "ytffjbhefbghicaa", sum := "aa69abd9b6218b6e0570cc7b998370a4bd33b1c0b220054cf8a81654c5674aa9", func := "loop.example/g03401/laws.FnExactParkingsOver", spec := "fnExactParkingsOver", apart := false }
def FnExactParkingsOverSaid : Prop := fnExactParkingsOverRow.holds Try.pinned (OpenSpec.ofChange fnExactParkingsOverSpec)

/-- ITS FALSE NEIGHBOUR: 'it returns false'. Refute it at one input. -/
def fnExactParkingsOverWrong : ChangeSpec := { name := "fnExactParkingsOver", fn := fun _ => fun
  | [d] => { results := [.lit (.bool false)], args := [d] }
  | _ => none }
def FnExactParkingsOverWrongFalsely : Prop := fnExactParkingsOverRow.holds Try.pinned (OpenSpec.ofChange fnExactParkingsOverWrong)

/- THE SECOND FORM. 'bulk': how many values and letters a reading holds, each counted each time it is reached (what is shared counts as often as it is met; a slice's spare places count too). A statement '..UptoSaid' is the law's where the arguments, and the package variables that the reading takes, are together of bulk at most 1048576: NARROWER than '..Said'. Prove '..Said' where nothing that the law and all that it calls make is longer than what came in: it says more and counts as full. Else prove '..UptoSaid'. A law counts once. -/
mutual
def uptoBulk {H : Type} : DataW H → Nat
  | .lit (.string bytes) => bytes.length + 1
  | .lit _ => 1
  | .nil => 1
  | .ptr d => uptoBulk d + 1
  | .slice elems spare => uptoBulkAll elems + uptoBulkAll spare + 1
  | .agg parts => uptoBulkAll parts + 1
  | .iface _ d => uptoBulk d + 1
  | .map entries => uptoBulkEntries entries + 1
  | .held _ => 1
def uptoBulkAll {H : Type} : List (DataW H) → Nat
  | [] => 0
  | d :: r => uptoBulk d + uptoBulkAll r
def uptoBulkEntries {H : Type} : List (Lit × DataW H) → Nat
  | [] => 0
  | x :: r => uptoBulkEntry x + uptoBulkEntries r
def uptoBulkEntry {H : Type} : Lit × DataW H → Nat
  | (.string bytes, d) => bytes.length + uptoBulk d + 1
  | (_, d) => uptoBulk d + 1
 end
def uptoSmall : (H : Type) → List (DataW H) → Bool := fun _ ds => decide (uptoBulkAll ds ≤ 1048576)
def OpenSpec.upto (s : _root_.Go.ChangeSpec) : _root_.Go.OpenSpec := { _root_.Go.OpenSpec.ofChange s with cond := some uptoSmall }

/-- 'laws.FnExactContains321', WHERE WHAT IT READS IS OF BULK AT MOST 1048576: true; the input reads as it did. -/
def fnExactContains321UptoRow : OpenClaim := { program := "ytffjbhefbghicaa", sum := "aa69abd9b6218b6e0570cc7b998370a4bd33b1c0b220054cf8a81654c5674aa9", func := "loop.example/g03401/laws.FnExactContains321", spec := "fnExactContains321", unfollowed := true, recurses := true, apart := false, narrowed := true }
def FnExactContains321UptoSaid : Prop := fnExactContains321UptoRow.holds Try.pinned (OpenSpec.upto fnExactContains321Spec)

/-- 'laws.FnExactTurnMatching', WHERE WHAT IT READS IS OF BULK AT MOST 1048576: true; the input reads as it did. -/
def fnExactTurnMatchingUptoRow : OpenClaim := { program := "ytffjbhefbghicaa", sum := "aa69abd9b6218b6e0570cc7b998370a4bd33b1c0b220054cf8a81654c5674aa9", func := "loop.example/g03401/laws.FnExactTurnMatching", spec := "fnExactTurnMatching", apart := false, narrowed := true }
def FnExactTurnMatchingUptoSaid : Prop := fnExactTurnMatchingUptoRow.holds Try.pinned (OpenSpec.upto fnExactTurnMatchingSpec)

/-- 'laws.FnExactIsNoncrossingMatching', WHERE WHAT IT READS IS OF BULK AT MOST 1048576: true; the input reads as it did. -/
def fnExactIsNoncrossingMatchingUptoRow : OpenClaim := { program := "ytffjbhefbghicaa", sum := "aa69abd9b6218b6e0570cc7b998370a4bd33b1c0b220054cf8a81654c5674aa9", func := "loop.example/g03401/laws.FnExactIsNoncrossingMatching", spec := "fnExactIsNoncrossingMatching", apart := false, narrowed := true }
def FnExactIsNoncrossingMatchingUptoSaid : Prop := fnExactIsNoncrossingMatchingUptoRow.holds Try.pinned (OpenSpec.upto fnExactIsNoncrossingMatchingSpec)

/-- 'laws.FnExactIsParking', WHERE WHAT IT READS IS OF BULK AT MOST 1048576: true; the input reads as it did. -/
def fnExactIsParkingUptoRow : OpenClaim := { program := "ytffjbhefbghicaa", sum := "aa69abd9b6218b6e0570cc7b998370a4bd33b1c0b220054cf8a81654c5674aa9", func := "loop.example/g03401/laws.FnExactIsParking", spec := "fnExactIsParking", apart := false, narrowed := true }
def FnExactIsParkingUptoSaid : Prop := fnExactIsParkingUptoRow.holds Try.pinned (OpenSpec.upto fnExactIsParkingSpec)

/-- 'laws.FnExactRenumberBlocks', WHERE WHAT IT READS IS OF BULK AT MOST 1048576: true; the input reads as it did. -/
def fnExactRenumberBlocksUptoRow : OpenClaim := { program := "ytffjbhefbghicaa", sum := "aa69abd9b6218b6e0570cc7b998370a4bd33b1c0b220054cf8a81654c5674aa9", func := "loop.example/g03401/laws.FnExactRenumberBlocks", spec := "fnExactRenumberBlocks", apart := false, narrowed := true }
def FnExactRenumberBlocksUptoSaid : Prop := fnExactRenumberBlocksUptoRow.holds Try.pinned (OpenSpec.upto fnExactRenumberBlocksSpec)

/-- 'laws.FnExactInverseOf', WHERE WHAT IT READS IS OF BULK AT MOST 1048576: true; the input reads as it did. -/
def fnExactInverseOfUptoRow : OpenClaim := { program := "ytffjbhefbghicaa", sum := "aa69abd9b6218b6e0570cc7b998370a4bd33b1c0b220054cf8a81654c5674aa9", func := "loop.example/g03401/laws.FnExactInverseOf", spec := "fnExactInverseOf", apart := false, narrowed := true }
def FnExactInverseOfUptoSaid : Prop := fnExactInverseOfUptoRow.holds Try.pinned (OpenSpec.upto fnExactInverseOfSpec)

/-- 'laws.FnExactPlacesOf', WHERE WHAT IT READS IS OF BULK AT MOST 1048576: true; the input reads as it did. -/
def fnExactPlacesOfUptoRow : OpenClaim := { program := "ytffjbhefbghicaa", sum := "aa69abd9b6218b6e0570cc7b998370a4bd33b1c0b220054cf8a81654c5674aa9", func := "loop.example/g03401/laws.FnExactPlacesOf", spec := "fnExactPlacesOf", apart := false, narrowed := true }
def FnExactPlacesOfUptoSaid : Prop := fnExactPlacesOfUptoRow.holds Try.pinned (OpenSpec.upto fnExactPlacesOfSpec)

/-- 'laws.FnExactDisplacementOf', WHERE WHAT IT READS IS OF BULK AT MOST 1048576: true; the input reads as it did. -/
def fnExactDisplacementOfUptoRow : OpenClaim := { program := "ytffjbhefbghicaa", sum := "aa69abd9b6218b6e0570cc7b998370a4bd33b1c0b220054cf8a81654c5674aa9", func := "loop.example/g03401/laws.FnExactDisplacementOf", spec := "fnExactDisplacementOf", apart := false, narrowed := true }
def FnExactDisplacementOfUptoSaid : Prop := fnExactDisplacementOfUptoRow.holds Try.pinned (OpenSpec.upto fnExactDisplacementOfSpec)

/-- 'laws.FnExactLuckyOf', WHERE WHAT IT READS IS OF BULK AT MOST 1048576: true; the input reads as it did. -/
def fnExactLuckyOfUptoRow : OpenClaim := { program := "ytffjbhefbghicaa", sum := "aa69abd9b6218b6e0570cc7b998370a4bd33b1c0b220054cf8a81654c5674aa9", func := "loop.example/g03401/laws.FnExactLuckyOf", spec := "fnExactLuckyOf", apart := false, narrowed := true }
def FnExactLuckyOfUptoSaid : Prop := fnExactLuckyOfUptoRow.holds Try.pinned (OpenSpec.upto fnExactLuckyOfSpec)

/-- 'laws.FnExactIsNonnesting', WHERE WHAT IT READS IS OF BULK AT MOST 1048576: true; the input reads as it did. -/
def fnExactIsNonnestingUptoRow : OpenClaim := { program := "ytffjbhefbghicaa", sum := "aa69abd9b6218b6e0570cc7b998370a4bd33b1c0b220054cf8a81654c5674aa9", func := "loop.example/g03401/laws.FnExactIsNonnesting", spec := "fnExactIsNonnesting", unfollowed := true, recurses := true, apart := false, narrowed := true }
def FnExactIsNonnestingUptoSaid : Prop := fnExactIsNonnestingUptoRow.holds Try.pinned (OpenSpec.upto fnExactIsNonnestingSpec)

/-- 'laws.FnExactIsTableau', WHERE WHAT IT READS IS OF BULK AT MOST 1048576: true; the input reads as it did. -/
def fnExactIsTableauUptoRow : OpenClaim := { program := "ytffjbhefbghicaa", sum := "aa69abd9b6218b6e0570cc7b998370a4bd33b1c0b220054cf8a81654c5674aa9", func := "loop.example/g03401/laws.FnExactIsTableau", spec := "fnExactIsTableau", apart := false, narrowed := true }
def FnExactIsTableauUptoSaid : Prop := fnExactIsTableauUptoRow.holds Try.pinned (OpenSpec.upto fnExactIsTableauSpec)

/-- 'laws.FnExactParkingsOver', WHERE WHAT IT READS IS OF BULK AT MOST 1048576: true; the input reads as it did. -/
def fnExactParkingsOverUptoRow : OpenClaim := { program := "ytffjbhefbghicaa", sum := "aa69abd9b6218b6e0570cc7b998370a4bd33b1c0b220054cf8a81654c5674aa9", func := "loop.example/g03401/laws.FnExactParkingsOver", spec := "fnExactParkingsOver", apart := false, narrowed := true }
def FnExactParkingsOverUptoSaid : Prop := fnExactParkingsOverUptoRow.holds Try.pinned (OpenSpec.upto fnExactParkingsOverSpec)

end Rows
end Go.Proofs.Ytffjbhefbghicaa
