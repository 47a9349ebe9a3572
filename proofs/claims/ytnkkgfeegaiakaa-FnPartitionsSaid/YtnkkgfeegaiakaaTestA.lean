/- What a test of all short paths tells of their partitions. No condition. -/
import Derived.Test.YtnkkgfeegaiakaaPlain29
namespace Go.Proofs.Ytnkkgfeegaiakaa
/-- the test of a path -/
def tA (l : List UInt8) : Bool := decide (PartP (parR l).1) && (nonF (parR l).1 && (decide (ppaL (parR l).1 (parR l).1.length = l) && decide ((((blocksR (parR l).1).length : Nat) : Int) = peaksV l)))
set_option maxRecDepth 100000 in
theorem tA_all : tstAll tA 6 = true := by decide +kernel
set_option maxRecDepth 100000 in
theorem tA_u8 : tA u8d8 = true := by decide +kernel
theorem path_part {l : List UInt8} (hs : Short l) (hd : DyckP l) : NonP (parR l).1 ∧ ppaR (parR l).1 = (l, true) ∧ (((blocksR (parR l).1).length : Nat) : Int) = peaksV l := by
  have h := path_tst tA_all tA_u8 hs hd
  unfold tA at h
  simp only [Bool.and_eq_true, decide_eq_true_eq] at h
  have hn : NonP (parR l).1 := ⟨h.1, nonF_iff.1 h.2.1⟩
  exact ⟨hn, by unfold ppaR; rw [if_pos hn, h.2.2.1], h.2.2.2⟩
end Go.Proofs.Ytnkkgfeegaiakaa
