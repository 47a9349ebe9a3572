/- Contracts of the two range tests: each returns whether a number lies between two others. No condition. -/
import Derived.Test.YtnkkgfeegaiakaaGround
namespace Go.Proofs.Ytnkkgfeegaiakaa
open Go.RowKit
theorem within_yes (x lo hi : Int) (w : World) (h1 : lo ≤ x) (h2 : x ≤ hi) :
    Calls Try.prog 178 #[.int .i64 x, .int .i64 lo, .int .i64 hi] w fun e w' => e = .returned (.bool true) ∧ w = w' := by
  go_enter Try.func178, Try.ntmps178
  go_wp2
  go_ret
  exact ⟨by simp_all, rfl⟩
theorem within_no (x lo hi : Int) (w : World) (h : ¬ (lo ≤ x ∧ x ≤ hi)) :
    Calls Try.prog 178 #[.int .i64 x, .int .i64 lo, .int .i64 hi] w fun e w' => e = .returned (.bool false) ∧ w = w' := by
  by_cases h1 : lo ≤ x
  · have h2 : ¬ x ≤ hi := fun h2 => h ⟨h1, h2⟩
    clear h
    go_enter Try.func178, Try.ntmps178
    go_wp2
    go_ret
    exact ⟨by simp_all, rfl⟩
  · clear h
    go_enter Try.func178, Try.ntmps178
    go_wp2
    go_ret
    exact ⟨by simp, rfl⟩
theorem l1In_yes (x lo hi : Int) (w : World) (h1 : lo ≤ x) (h2 : x ≤ hi) :
    Calls Try.prog 185 #[.int .i64 x, .int .i64 lo, .int .i64 hi] w fun e w' => e = .returned (.bool true) ∧ w = w' := by
  go_enter Try.func185, Try.ntmps185
  go_wp2
  go_ret
  exact ⟨by simp_all, rfl⟩
theorem l1In_no (x lo hi : Int) (w : World) (h : ¬ (lo ≤ x ∧ x ≤ hi)) :
    Calls Try.prog 185 #[.int .i64 x, .int .i64 lo, .int .i64 hi] w fun e w' => e = .returned (.bool false) ∧ w = w' := by
  by_cases h1 : lo ≤ x
  · have h2 : ¬ x ≤ hi := fun h2 => h ⟨h1, h2⟩
    clear h
    go_enter Try.func185, Try.ntmps185
    go_wp2
    go_ret
    exact ⟨by simp_all, rfl⟩
  · clear h
    go_enter Try.func185, Try.ntmps185
    go_wp2
    go_ret
    exact ⟨by simp, rfl⟩
end Go.Proofs.Ytnkkgfeegaiakaa
