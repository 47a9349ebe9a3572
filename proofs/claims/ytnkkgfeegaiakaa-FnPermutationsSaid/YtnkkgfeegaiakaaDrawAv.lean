/- Contract of the draw of a pattern to be avoided. No condition. -/
import Derived.Test.YtnkkgfeegaiakaaDrawBase
namespace Go.Proofs.Ytnkkgfeegaiakaa
open Go.RowKit
def four : List ByteArray := [⟨#[50, 51, 49]⟩, ⟨#[51, 50, 49]⟩, ⟨#[]⟩, ⟨#[49, 51, 50]⟩]
theorem four_le : ∀ x ∈ four, x.size ≤ 3 := by decide
set_option maxRecDepth 8000 in
theorem DrawAvoiders_any (v : Value) (bs : List UInt8) (w : World) (hv : RdR bf w v bs) : Calls Try.prog 72 #[v] w fun e w' => ∃ (N : Int) (p : ByteArray), e = .returned (.tuple #[.int .i64 N, .string p]) ∧ p.size ≤ 3 ∧ Below w.heap.size w w' := by
  have HL := Lib.hid four_le
  go_enter Try.func72, Try.ntmps72
  go_wp2_with fail
  refine (l1New_any v bs w hv).mono ?_; rintro e w1 ⟨rfl, c1, b1⟩
  go_wp2_with fail
  refine (l1Below_any _ 8 bs _ c1 (by omega) (by omega)).mono ?_; rintro e w2 ⟨x, rfl, hx, c2, g2⟩
  have hS := (OwS.lit w2 four w2.heap.size (Nat.le_refl _) (by simp [four])).rd
  have c3 := c2.grown (row := none) (World.grownBy_alloc w2 (.cells (four.map Value.string).toArray 9) none) (fun r e => by cases e)
  have hc2 := c2.lt
  have HP := Lib.hid (l1Pick_any _ bs _ c3 _ four hS (fun e => by simp [Value.ownBlock] at e; omega) (by simp [four]) (by simp [four]))
  have HG := Lib.hid (below_cur b1 (grown_trans_row g2 (grown_alloc w2 (.cells (four.map Value.string).toArray 9) (some w.heap.size))))
  clear hS c3 c1 b1 g2
  go_wp2_with fail
  refine HP.out.mono ?_; rintro e w4 ⟨t, ht, rfl, c4, g4⟩
  go_wp2_with fail
  go_ret2
  exact ⟨(x : Int) - 1, t, rfl, HL.out t ht, below_cur HG.out g4⟩
end Go.Proofs.Ytnkkgfeegaiakaa
