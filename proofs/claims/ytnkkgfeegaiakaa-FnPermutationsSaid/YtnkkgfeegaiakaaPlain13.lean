/- Plain words on the path of a permutation: a stack that gives its top away when its turn has come. No condition. -/
import Derived.Test.YtnkkgfeegaiakaaGround
namespace Go.Proofs.Ytnkkgfeegaiakaa
abbrev PopS := List Int × Int × List UInt8
def popV : Nat → PopS → PopS
  | 0, s => s
  | n + 1, (st, g, w) => if st.getLast? = some g then popV n (st.dropLast, g + 1, w ++ [100]) else (st, g, w)
theorem popV_hit (n : Nat) (ys : List Int) (g : Int) (w : List UInt8) : popV (n + 1) (ys ++ [g], g, w) = popV n (ys, g + 1, w ++ [100]) := by simp [popV]
theorem popV_miss (n : Nat) {ys : List Int} {y g : Int} (w : List UInt8) (h : y ≠ g) : popV n (ys ++ [y], g, w) = (ys ++ [y], g, w) := by
  cases n with
  | zero => rfl
  | succ n => simp [popV, h]
theorem popV_nil (n : Nat) (g : Int) (w : List UInt8) : popV n ([], g, w) = ([], g, w) := by
  cases n <;> simp [popV]
def ppStep (s : PopS) (x : Int) : PopS := popV (s.1.length + 1) (s.1 ++ [x], s.2.1, s.2.2 ++ [117])
def ppS (p : List Int) (k : Nat) : PopS := (p.take k).foldl ppStep ([], 0, [])
theorem ppS_zero (p : List Int) : ppS p 0 = ([], 0, []) := by simp [ppS]
theorem ppS_succ {p : List Int} {k : Nat} (h : k < p.length) : ppS p (k + 1) = ppStep (ppS p k) p[k] := by
  unfold ppS
  rw [List.take_succ_eq_append_getElem h, List.foldl_append]; rfl
def pthR (p : List Int) : List UInt8 × Bool := if PermP p ∧ ¬ TripR R231 p then ((ppS p p.length).2.2, true) else ([], false)
end Go.Proofs.Ytnkkgfeegaiakaa
