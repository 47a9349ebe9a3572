/- Contracts of the draws of paths' texts. No condition. -/
import Derived.Test.YtnkkgfeegaiakaaDrawBase
namespace Go.Proofs.Ytnkkgfeegaiakaa
open Go.RowKit
theorem DrawTableauOf_any (v : Value) (bs : List UInt8) (w : World) (hv : RdR bf w v bs) : Calls Try.prog 35 #[v] w (RetXT w TxtP) := by
  go_enter Try.func35, Try.ntmps35
  go_wp2_with fail
  refine (l1New_any v bs w hv).mono ?_; rintro e w1 ⟨rfl, c1, b1⟩
  go_wp2_with fail
  refine (l2Any_any w.heap.size bs w1 c1).mono ?_; rintro e w2 ⟨s, rfl, hx, c2, g2⟩
  go_wp2_with fail
  go_ret
  exact ⟨s, rfl, hx, below_cur b1 g2⟩
theorem DrawMajorOf_any (v : Value) (bs : List UInt8) (w : World) (hv : RdR bf w v bs) : Calls Try.prog 37 #[v] w (RetXT w TxtP) := by
  go_enter Try.func37, Try.ntmps37
  go_wp2_with fail
  refine (l1New_any v bs w hv).mono ?_; rintro e w1 ⟨rfl, c1, b1⟩
  go_wp2_with fail
  refine (l2Any_any w.heap.size bs w1 c1).mono ?_; rintro e w2 ⟨s, rfl, hx, c2, g2⟩
  go_wp2_with fail
  go_ret
  exact ⟨s, rfl, hx, below_cur b1 g2⟩
theorem DrawPartitionOf_any (v : Value) (bs : List UInt8) (w : World) (hv : RdR bf w v bs) : Calls Try.prog 83 #[v] w (RetXT w TxtP) := by
  go_enter Try.func83, Try.ntmps83
  go_wp2_with fail
  refine (l1New_any v bs w hv).mono ?_; rintro e w1 ⟨rfl, c1, b1⟩
  go_wp2_with fail
  refine (l2Any_any w.heap.size bs w1 c1).mono ?_; rintro e w2 ⟨s, rfl, hx, c2, g2⟩
  go_wp2_with fail
  go_ret
  exact ⟨s, rfl, hx, below_cur b1 g2⟩
theorem DrawMatchingOf_any (v : Value) (bs : List UInt8) (w : World) (hv : RdR bf w v bs) : Calls Try.prog 105 #[v] w (RetXT w TxtP) := by
  go_enter Try.func105, Try.ntmps105
  go_wp2_with fail
  refine (l1New_any v bs w hv).mono ?_; rintro e w1 ⟨rfl, c1, b1⟩
  go_wp2_with fail
  refine (l2Any_any w.heap.size bs w1 c1).mono ?_; rintro e w2 ⟨s, rfl, hx, c2, g2⟩
  go_wp2_with fail
  go_ret
  exact ⟨s, rfl, hx, below_cur b1 g2⟩
theorem DrawPermutationOf_any (v : Value) (bs : List UInt8) (w : World) (hv : RdR bf w v bs) : Calls Try.prog 60 #[v] w (RetXT w TxtP) := by
  go_enter Try.func60, Try.ntmps60
  go_wp2_with fail
  refine (l1New_any v bs w hv).mono ?_; rintro e w1 ⟨rfl, c1, b1⟩
  go_wp2_with fail
  refine (l2Any_any w.heap.size bs w1 c1).mono ?_; rintro e w2 ⟨s, rfl, hx, c2, g2⟩
  go_wp2_with fail
  go_ret
  exact ⟨s, rfl, hx, below_cur b1 g2⟩
theorem DrawBracketsOf_any (v : Value) (bs : List UInt8) (w : World) (hv : RdR bf w v bs) : Calls Try.prog 51 #[v] w (RetXT w TxtP) := by
  go_enter Try.func51, Try.ntmps51
  go_wp2_with fail
  refine (l1New_any v bs w hv).mono ?_; rintro e w1 ⟨rfl, c1, b1⟩
  go_wp2_with fail
  refine (l2Any_any w.heap.size bs w1 c1).mono ?_; rintro e w2 ⟨s, rfl, hx, c2, g2⟩
  go_wp2_with fail
  go_ret
  exact ⟨s, rfl, hx, below_cur b1 g2⟩
theorem DrawParkingsOver_any (v : Value) (bs : List UInt8) (w : World) (hv : RdR bf w v bs) : Calls Try.prog 138 #[v] w (RetXT w TxtP) := by
  go_enter Try.func138, Try.ntmps138
  go_wp2_with fail
  refine (l1New_any v bs w hv).mono ?_; rintro e w1 ⟨rfl, c1, b1⟩
  go_wp2_with fail
  refine (l2Any_any w.heap.size bs w1 c1).mono ?_; rintro e w2 ⟨s, rfl, hx, c2, g2⟩
  go_wp2_with fail
  go_ret
  exact ⟨s, rfl, hx, below_cur b1 g2⟩
end Go.Proofs.Ytnkkgfeegaiakaa
