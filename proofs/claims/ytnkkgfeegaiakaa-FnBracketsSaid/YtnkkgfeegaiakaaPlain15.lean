/- Plain words on the tableau of a path: the places of its letters. No condition. -/
import Derived.Test.YtnkkgfeegaiakaaGround
namespace Go.Proofs.Ytnkkgfeegaiakaa
def tuL (l : List UInt8) (k : Nat) : List Int := (List.range k).flatMap fun (i : Nat) => if (l.getD i 0).toNat = 117 then [(i : Int) + 1] else []
def tdL (l : List UInt8) (k : Nat) : List Int := (List.range k).flatMap fun (i : Nat) => if (l.getD i 0).toNat = 117 then [] else [(i : Int) + 1]
theorem tuL_succ {l : List UInt8} {k : Nat} (h : k < l.length) : tuL l (k + 1) = tuL l k ++ (if l[k].toNat = 117 then [(k : Int) + 1] else []) := by
  simp only [tuL, List.range_succ, List.flatMap_append, List.flatMap_cons, List.flatMap_nil, List.append_nil, getD_of h]
theorem tdL_succ {l : List UInt8} {k : Nat} (h : k < l.length) : tdL l (k + 1) = tdL l k ++ (if l[k].toNat = 117 then [] else [(k : Int) + 1]) := by
  simp only [tdL, List.range_succ, List.flatMap_append, List.flatMap_cons, List.flatMap_nil, List.append_nil, getD_of h]
theorem flat_le {f : Nat → List Int} (hf : ∀ i, (f i).length ≤ 1) : ∀ k, ((List.range k).flatMap f).length ≤ k := by
  intro k
  induction k with
  | zero => simp
  | succ k ih =>
    rw [List.range_succ, List.flatMap_append, List.length_append, List.flatMap_cons, List.flatMap_nil, List.append_nil]
    have := hf k
    omega
theorem tuL_len (l : List UInt8) (k : Nat) : (tuL l k).length ≤ k := flat_le (fun i => by split <;> simp) k
theorem tdL_len (l : List UInt8) (k : Nat) : (tdL l k).length ≤ k := flat_le (fun i => by split <;> simp) k
def tabR (l : List UInt8) : List (List Int) × Bool := if DyckP l then ([tuL l l.length, tdL l l.length], true) else ([], false)
end Go.Proofs.Ytnkkgfeegaiakaa
