/- Contract of (*tree).nodes: the number of nodes. Condition: a tree by pointers, not too large. -/
import Derived.Test.YtnkkgfeegaiakaaTreeOf
namespace Go.Proofs.Ytnkkgfeegaiakaa
open Go.RowKit
theorem two_cells' {w : World} {b : Nat} {u v : Value} {t : TypeId} (h : w.heap[b]? = some (.cells #[u, v] t (0, 0))) : w.cell? ⟨b, 0, none⟩ = some u ∧ w.cell? ⟨b, 1, none⟩ = some v := by
  refine ⟨by simp [World.cell?, h], by simp [World.cell?, h]⟩
set_option maxHeartbeats 1000000 in
theorem nodes_any : ∀ (T : Tr) (v : Value) (w : World), TreeAt w v T → T.size ≤ 1000 →
    Calls Try.prog 164 #[v] w fun e w' => e = .returned (.int .i64 (T.size : Int)) ∧ ∃ q, w' = w.drewN q := by
  intro T
  induction T with
  | lf =>
    intro v w h _
    obtain rfl : v = .pointer none := h
    go_enter Try.func164, Try.ntmps164
    go_wp2_with fail
    go_ret
    exact ⟨rfl, 0, rfl⟩
  | nd a b iha ihb =>
    intro v w h hs
    obtain ⟨g, va, vb, rfl, hb, ta, tb⟩ := h
    obtain ⟨pa, rfl⟩ := TreeAt.ptr _ ta
    obtain ⟨pb, rfl⟩ := TreeAt.ptr _ tb
    obtain ⟨c0, c1⟩ := two_cells' hb
    have hsz : (Tr.nd a b).size = a.size + b.size + 1 := rfl
    have hsa : a.size ≤ 1000 := by omega
    have hsb : b.size ≤ 1000 := by omega
    have HA : Hid (∀ w1, Below w.heap.size w w1 → Calls Try.prog 164 #[.pointer pa] w1 fun e w' => e = .returned (.int .i64 (a.size : Int)) ∧ ∃ m, w' = w1.drewN m) := Lib.hid fun w1 h => iha _ _ (TreeAt.below h _ ta) hsa
    have HB : Hid (∀ w1, Below w.heap.size w w1 → Calls Try.prog 164 #[.pointer pb] w1 fun e w' => e = .returned (.int .i64 (b.size : Int)) ∧ ∃ m, w' = w1.drewN m) := Lib.hid fun w1 h => ihb _ _ (TreeAt.below h _ tb) hsb
    clear iha ihb ta tb hb
    have ew1 : IntKind.i64.wrap ((a.size : Int) + (b.size : Int)) = (a.size : Int) + (b.size : Int) := IntWalk.i64_in _ (by omega)
    have ew2 : IntKind.i64.wrap ((a.size : Int) + (b.size : Int) + 1) = (a.size : Int) + (b.size : Int) + 1 := IntWalk.i64_in _ (by omega)
    have HS := Lib.hid (show (((Tr.nd a b).size : Nat) : Int) = (a.size : Int) + (b.size : Int) + 1 by rw [hsz]; omega)
    clear hsz
    go_enter Try.func164, Try.ntmps164
    go_wp2_with fail
    go_region_law (first
      | (go_simp
         go_at_call_of 164 (Value.pointer pa)
         have H1 := HA.out w.drew (below_draws w 1)
         refine H1.mono ?_
         clear H1
         rintro e w3 ⟨rfl, q3, rfl⟩)
      | (go_simp
         go_at_call_of 164 (Value.pointer pb)
         have H1 := HB.out (w.drewN (1 + q3)) (below_draws w _)
         refine H1.mono ?_
         clear H1
         rintro e w4 ⟨rfl, q4, rfl⟩))
    all_goals (
      go_wp2_with fail
      go_ret
      exact ⟨ret_int HS.out.symm, _, rfl⟩)
end Go.Proofs.Ytnkkgfeegaiakaa
