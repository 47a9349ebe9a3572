/- Plain words for the law on permutations: what tests of all short paths and of all permutations of at most six numbers tell. No condition. -/
import Derived.Test.YtnkkgfeegaiakaaPlain29
import Derived.Test.YtnkkgfeegaiakaaPlain13
namespace Go.Proofs.Ytnkkgfeegaiakaa
/-- the test of a path -/
def tD (l : List UInt8) : Bool := decide (pthR (poR l).1 = (l, true))
set_option maxRecDepth 100000 in
theorem tD_all : tstAll tD 6 = true := by decide +kernel
set_option maxRecDepth 100000 in
theorem tD_u8 : tD u8d8 = true := by decide +kernel
/-- the test of a permutation -/
def tE (p : List Int) : Bool := decide (invV (invR p).1 = invV p) && (decide (TripR R321 (invR p).1) == decide (TripR R321 p))
set_option maxRecDepth 100000 in
theorem tE_all : ((List.range 6).all fun n => tstL (candQ n) tE n []) = true := by decide +kernel
set_option maxRecDepth 100000 in
theorem tE_six : tstL (candQ 6) tE 6 [] = true := by decide +kernel
theorem perm_facts {p : List Int} (hp : PermP p) (hl : p.length ≤ 6) : invV (invR p).1 = invV p ∧ decide (TripR R321 (invR p).1) = decide (TripR R321 p) := by
  have h : tE p = true := by
    by_cases h6 : p.length = 6
    · exact perm_tst tE_six hp h6
    · exact perm_tst (List.all_eq_true.1 tE_all p.length (List.mem_range.2 (by omega))) hp rfl
  unfold tE at h
  simp only [Bool.and_eq_true, decide_eq_true_eq, beq_iff_eq] at h
  exact h
theorem invR_yes (p : List Int) : (invR p).2 = decide (PermP p) := by
  unfold invR
  by_cases h : PermP p
  · rw [if_pos h, decide_eq_true h]
  · rw [if_neg h, decide_eq_false h]
theorem pthR_yes (p : List Int) : (pthR p).2 = decide (PermP p ∧ ¬ TripR R231 p) := by
  unfold pthR
  by_cases h : PermP p ∧ ¬ TripR R231 p
  · rw [if_pos h, decide_eq_true h]
  · rw [if_neg h, decide_eq_false h]
theorem path_perm {l : List UInt8} (hs : Short l) (hd : DyckP l) : pthR (poR l).1 = (l, true) := by
  have := path_tst tD_all tD_u8 hs hd
  exact of_decide_eq_true this
end Go.Proofs.Ytnkkgfeegaiakaa
