/- The children of a place in a list of parents, in plain words. -/
import Derived.Test.YtdjickibifcelaaPathRun
namespace Go.Proofs.Ytdjickibifcelaa
open Go.RowKit
/-- the places ahead of k whose parent is v -/
def chN (p : List Int) (v : Int) (k : Nat) : List Int := (List.range k).flatMap fun (i : Nat) => if p.getD i 0 = v then [(i : Int)] else []
theorem chN_succ (p : List Int) (v : Int) (k : Nat) : chN p v (k + 1) = chN p v k ++ (if p.getD k 0 = v then [(k : Int)] else []) := by simp [chN, List.range_succ]
theorem chN_hit {p : List Int} {v : Int} {k : Nat} (hk : k < p.length) (h : p[k] = v) : chN p v (k + 1) = chN p v k ++ [(k : Int)] := by
  rw [chN_succ, if_pos (by simp [List.getD, hk, h])]
theorem chN_miss {p : List Int} {v : Int} {k : Nat} (hk : k < p.length) (h : ¬ p[k] = v) : chN p v (k + 1) = chN p v k := by
  rw [chN_succ, if_neg (by simp [List.getD, hk, h]), List.append_nil]
theorem chN_len (p : List Int) (v : Int) (k : Nat) : (chN p v k).length ≤ k := by
  induction k with
  | zero => simp [chN]
  | succ k ih => rw [chN_succ, List.length_append]; split <;> simp <;> omega
theorem chN_one {p : List Int} {v : Int} (h0 : 0 < p.length) (h : ¬ p[0] = v) : chN p v 1 = [] := by rw [chN_miss h0 h]; rfl
/-- how many of the places ahead of k have no child -/
def lvN (p : List Int) : Nat → Nat
  | 0 => 0
  | k + 1 => lvN p k + (if (chN p (k : Int) p.length).length = 0 then 1 else 0)
theorem lvN_le (p : List Int) (k : Nat) : lvN p k ≤ k := by
  induction k with
  | zero => exact Nat.le_refl _
  | succ k ih => unfold lvN; split <;> omega
end Go.Proofs.Ytdjickibifcelaa
