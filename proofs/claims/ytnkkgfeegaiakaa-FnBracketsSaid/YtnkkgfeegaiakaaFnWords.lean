/- Words for the walks of the laws: what a call leaves, spelled as the law compares it. No condition. -/
import Derived.Test.YtnkkgfeegaiakaaDrawBase
namespace Go.Proofs.Ytnkkgfeegaiakaa
open Go.RowKit
theorem retSB_to {P : Program} {f : FuncId} {args : Array Value} {w : World} {R : List UInt8 × Bool} {l : List UInt8} {s : ByteArray} {b : Bool} (h : Calls P f args w (RetSB w R)) (hR : R = (l, b)) (hs : S l = s) :
    Calls P f args w fun e w' => e = .returned (.tuple #[.string s, .bool b]) ∧ Below w.heap.size w w' := by
  subst hR; subst hs; exact h
theorem S_tl (l : List UInt8) : (S l).toList = l := by
  unfold S
  rw [ByteArray.toList_mk]
theorem RdI.shape {w : World} {v : Value} {xs : List Int} (h : RdI w v xs) : ∃ A c, v = .slice A xs.length c := by
  obtain ⟨A, c, e, _⟩ := h; exact ⟨A, c, e⟩
theorem RdSS.shape {w : World} {v : Value} {xs : List (List Int)} (h : RdSS w v xs) : ∃ A c, v = .slice A xs.length c := by
  obtain ⟨A, c, e, _⟩ := h; exact ⟨A, c, e⟩
end Go.Proofs.Ytnkkgfeegaiakaa
