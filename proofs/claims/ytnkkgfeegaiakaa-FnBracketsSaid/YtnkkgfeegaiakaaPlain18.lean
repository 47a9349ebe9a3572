/- Plain words on the matching of a partition: each element's place behind it is joined with that ahead of the next one in its block. No condition. -/
import Derived.Test.YtnkkgfeegaiakaaPlain17
namespace Go.Proofs.Ytnkkgfeegaiakaa
def mstep (o : List Int) (i j : Int) : List Int := (o.set (2 * i + 1).toNat (2 * j)).set (2 * j).toNat (2 * i + 1)
def mrow (o r : List Int) (k : Nat) : List Int := (List.range k).foldl (fun o k => mstep o (r.getD k 0) (r.getD ((k + 1) % r.length) 0)) o
def mall (o : List Int) (R : List (List Int)) (y : Nat) : List Int := (List.range y).foldl (fun o y => mrow o (R.getD y []) (R.getD y []).length) o
theorem mrow_zero (o r : List Int) : mrow o r 0 = o := rfl
theorem mrow_succ (o r : List Int) (k : Nat) : mrow o r (k + 1) = mstep (mrow o r k) (r.getD k 0) (r.getD ((k + 1) % r.length) 0) := by simp [mrow, List.range_succ]
theorem mall_succ (o : List Int) (R : List (List Int)) (y : Nat) : mall o R (y + 1) = mrow (mall o R y) (R.getD y []) (R.getD y []).length := by simp [mall, List.range_succ]
theorem mstep_len (o : List Int) (i j : Int) : (mstep o i j).length = o.length := by simp [mstep]
theorem mrow_len (o r : List Int) (k : Nat) : (mrow o r k).length = o.length := by
  induction k with
  | zero => rfl
  | succ k ih => rw [mrow_succ, mstep_len, ih]
theorem mall_len (o : List Int) (R : List (List Int)) (y : Nat) : (mall o R y).length = o.length := by
  induction y with
  | zero => rfl
  | succ y ih => rw [mall_succ, mrow_len, ih]
def mopR (p : List Int) : List Int × Bool := if NonP p then (mall (List.replicate (2 * p.length) 0) (bks p p.length) (bks p p.length).length, true) else ([], false)
/-- what stands in a block -/
def RowsIn (n : Nat) (R : List (List Int)) : Prop := R.length ≤ 8 ∧ ∀ y (_ : y < R.length), R[y].length ≤ 8 ∧ ∀ j (_ : j < R[y].length), ∃ i : Nat, R[y][j] = (i : Int) ∧ i < n
theorem bks_rowsIn {p : List Int} (hp : PartP p) : RowsIn p.length (bks p p.length) := by
  have h1 := bks_len hp p.length (Nat.le_refl _)
  have h2 := nextOf_le_k p hp p.length (Nat.le_refl _)
  have h8 := hp.1
  refine ⟨by omega, fun y hy => ?_⟩
  have e : (bks p p.length)[y] = flt p p.length y := by rw [← bks_row hp p.length (Nat.le_refl _) y, getD_of hy]
  have hl := bks_rows p p.length y
  rw [getD_of hy] at hl
  refine ⟨by omega, fun j hj => ?_⟩
  have hj' : j < (fltN p p.length y).length := by rw [e, flt_len] at hj; exact hj
  refine ⟨(fltN p p.length y)[j], ?_, (fltN_mem.1 (List.getElem_mem hj')).1⟩
  have := flt_get hj'
  rw [← this]
  simp only [e]
  rw [getD_of]
end Go.Proofs.Ytnkkgfeegaiakaa
