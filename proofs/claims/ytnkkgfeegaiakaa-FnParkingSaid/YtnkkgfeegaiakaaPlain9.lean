/- Plain words on the path of a parking function. No condition. -/
import Derived.Test.YtnkkgfeegaiakaaGround
namespace Go.Proofs.Ytnkkgfeegaiakaa
/-- as many letters u as there are wishes for a place among the first k cars -/
def usL (f : List Int) (p k : Nat) : List UInt8 := (List.range k).flatMap fun (i : Nat) => if f.getD i 0 = (p : Int) then [117] else []
theorem usL_succ (f : List Int) (p k : Nat) : usL f p (k + 1) = usL f p k ++ (if f.getD k 0 = (p : Int) then [117] else []) := by simp [usL, List.range_succ]
theorem usL_len (f : List Int) (p k : Nat) : (usL f p k).length ≤ k := by
  induction k with
  | zero => simp [usL]
  | succ k ih => rw [usL_succ, List.length_append]; split <;> simp <;> omega
/-- the letters of the places from 1 to k -/
def ppL (f : List Int) (k : Nat) : List UInt8 := (List.range k).flatMap fun (p : Nat) => usL f (p + 1) f.length ++ [100]
theorem ppL_succ (f : List Int) (k : Nat) : ppL f (k + 1) = ppL f k ++ (usL f (k + 1) f.length ++ [100]) := by simp [ppL, List.range_succ]
theorem ppL_len (f : List Int) (k : Nat) : (ppL f k).length ≤ k * (f.length + 1) := by
  induction k with
  | zero => simp [ppL]
  | succ k ih =>
    rw [ppL_succ, List.length_append, List.length_append, Nat.succ_mul]
    have := usL_len f (k + 1) f.length
    simp; omega
def ppR (f : List Int) : List UInt8 × Bool := if (placesR f).2 = true then (ppL f f.length, true) else ([], false)
end Go.Proofs.Ytnkkgfeegaiakaa
