/- Contracts of EvacuateTableau, the program's and the reference's: both return the same rows and bool. No condition. -/
import Derived.Test.YtnkkgfeegaiakaaTabPathImpl
import Derived.Test.YtnkkgfeegaiakaaTabOf
import Derived.Test.YtnkkgfeegaiakaaPathRev
namespace Go.Proofs.Ytnkkgfeegaiakaa
open Go.RowKit
theorem evaR_off (t : List (List Int)) : off (evaR t).1 (evaR t).1.length ≤ 64 := by
  unfold evaR
  by_cases h : TabP t
  · rw [if_pos h]; exact tabR_off _
  · rw [if_neg h]; exact Nat.zero_le _
theorem specEvacuateTableau_any (v : Value) (t : List (List Int)) (w : World) (hv : RdSS w v t) :
    Calls Try.prog 29 #[v] w (RetSSB w (evaR t)) := by
  have HP0 := specPathOfTableau_any _ _ _ hv
  obtain ⟨A, c, rfl, hc, hl, _⟩ := hv
  by_cases hT : TabP t
  · have HD := Lib.hid (pot_dyck hT.2)
    have HV := Lib.hid (show evaR t = ((tabR (revD (potL (rw_ t 0) (2 * (rw_ t 0).length)))).1, true) by
      have := evaR_yes hT
      unfold evaR at this ⊢
      rw [if_pos hT] at this ⊢
      rw [← this])
    have e1 : potR t = (potL (rw_ t 0) (2 * (rw_ t 0).length), true) := by unfold potR; rw [if_pos hT]
    rw [e1] at HP0
    clear hT e1
    generalize potL (rw_ t 0) (2 * (rw_ t 0).length) = l at *
    have h16 : (S l).size ≤ 16 := by rw [S_size]; exact HD.out.1
    have h16r : (S (revD l)).size ≤ 16 := by rw [S_size]; exact (rev_dyck HD.out).1
    have HRV := Lib.hid (show rvR (L (S l)) = (revD l, true) by rw [L_S]; unfold rvR; rw [if_pos HD.out])
    have HTV := Lib.hid (L_S (revD l))
    go_enter Try.func29, Try.ntmps29
    go_wp2_with fail
    refine HP0.mono ?_; rintro e w1 ⟨rfl, b1⟩
    go_wp2_with fail
    refine (specReversePath_any _ _ (by omega)).mono ?_; rintro e w2 ⟨rfl, b2⟩
    rw [HRV.out]
    go_wp2_with fail
    refine (specTableauOf_any _ _ (by omega)).mono ?_; rintro e w3 ⟨r, rfl, o3, b3⟩
    rw [HTV.out] at o3
    have B2 := below_then b1 b2
    go_wp2_with fail
    go_ret2
    exact RetSSB.mk HV.out (o3.mono B2.size) (below_then B2 b3)
  · have e1 : potR t = ([], false) := by unfold potR; rw [if_neg hT]
    rw [e1] at HP0
    have HV := Lib.hid (show evaR t = ([], false) by unfold evaR; rw [if_neg hT])
    clear hT e1
    go_enter Try.func29, Try.ntmps29
    go_wp2_with fail
    refine HP0.mono ?_; rintro e w1 ⟨rfl, b1⟩
    go_wp2_with fail
    go_ret2
    exact RetSSB.mk HV.out (OwSS.empty2 w1 w.heap.size b1.size) (b1.alloc b1.size _)
theorem implEvacuateTableau_any (v : Value) (t : List (List Int)) (w : World) (hv : RdSS w v t) :
    Calls Try.prog 28 #[v] w (RetSSB w (evaR t)) := by
  have HP0 := implPathOfTableau_any _ _ _ hv
  obtain ⟨A, c, rfl, hc, hl, _⟩ := hv
  by_cases hT : TabP t
  · have HD := Lib.hid (pot_dyck hT.2)
    have HV := Lib.hid (show evaR t = tabR (revD (potL (rw_ t 0) (2 * (rw_ t 0).length))) by unfold evaR; rw [if_pos hT])
    have e1 : potR t = (potL (rw_ t 0) (2 * (rw_ t 0).length), true) := by unfold potR; rw [if_pos hT]
    rw [e1] at HP0
    clear hT e1
    generalize potL (rw_ t 0) (2 * (rw_ t 0).length) = l at *
    have h16r : (S (revD l)).size ≤ 16 := by rw [S_size]; exact (rev_dyck HD.out).1
    have HRV := Lib.hid (show rvR (L (S l)) = (revD l, true) by rw [L_S]; unfold rvR; rw [if_pos HD.out])
    have HTV := Lib.hid (L_S (revD l))
    go_enter Try.func28, Try.ntmps28
    go_wp2_with fail
    refine HP0.mono ?_; rintro e w1 ⟨rfl, b1⟩
    go_wp2_with fail
    refine (implReversePath_any _ _).mono ?_; rintro e w2 ⟨rfl, b2⟩
    rw [HRV.out]
    go_wp2_with fail
    refine (implTableauOf_any _ _ (by omega)).mono ?_; rintro e w3 ⟨r, rfl, o3, b3⟩
    rw [HTV.out] at o3
    have HB := Lib.hid (show (tabR (L (S (revD l)))).2 = (tabR (revD l)).2 by rw [HTV.out])
    have B2 := below_then b1 b2
    go_wp2_with fail
    go_ret2
    rw [HB.out]
    exact RetSSB.mk HV.out (o3.mono B2.size) (below_then B2 b3)
  · have e1 : potR t = ([], false) := by unfold potR; rw [if_neg hT]
    rw [e1] at HP0
    have HV := Lib.hid (show evaR t = ([], false) by unfold evaR; rw [if_neg hT])
    clear hT e1
    go_enter Try.func28, Try.ntmps28
    go_wp2_with fail
    refine HP0.mono ?_; rintro e w1 ⟨rfl, b1⟩
    go_wp2_with fail
    go_ret2
    exact RetSSB.mk HV.out (OwSS.empty2 w1 w.heap.size b1.size) (b1.alloc b1.size _)
end Go.Proofs.Ytnkkgfeegaiakaa
