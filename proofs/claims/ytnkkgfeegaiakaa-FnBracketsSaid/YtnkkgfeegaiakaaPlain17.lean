/- Plain words on the path of a partition: a block's letters d behind its last element. No condition. -/
import Derived.Test.YtnkkgfeegaiakaaGround
import Derived.Test.YtnkkgfeegaiakaaPlain12
namespace Go.Proofs.Ytnkkgfeegaiakaa
def rwP (p : List Int) (i : Nat) : List Int := (bks p p.length).getD (p.getD i 0).toNat []
def ppaStep (p : List Int) (i : Nat) : List UInt8 := 117 :: (if (rwP p i).getD ((rwP p i).length - 1) 0 = (i : Int) then List.replicate (rwP p i).length 100 else [])
def ppaL (p : List Int) (k : Nat) : List UInt8 := (List.range k).flatMap (ppaStep p)
def ppaR (p : List Int) : List UInt8 × Bool := if NonP p then (ppaL p p.length, true) else ([], false)
theorem ppaL_succ (p : List Int) (k : Nat) : ppaL p (k + 1) = ppaL p k ++ ppaStep p k := by simp [ppaL, List.range_succ]
theorem rwP_len (p : List Int) (i : Nat) : (rwP p i).length ≤ p.length := bks_rows p p.length _
theorem ppaL_len (p : List Int) (k : Nat) : (ppaL p k).length ≤ k * (p.length + 1) := by
  induction k with
  | zero => simp [ppaL]
  | succ k ih =>
    rw [ppaL_succ, List.length_append, Nat.succ_mul]
    have h : (ppaStep p k).length ≤ p.length + 1 := by
      unfold ppaStep
      rw [List.length_cons]
      split
      · rw [List.length_replicate]; have := rwP_len p k; omega
      · simp
    omega
theorem nextOf_mono (p : List Int) : ∀ {i j : Nat}, i ≤ j → j ≤ p.length → nextOf p i ≤ nextOf p j := by
  intro i j hij
  induction hij with
  | refl => intro _; exact Int.le_refl _
  | @step m h ih =>
    intro hj
    have h1 := nextOf_succ p m hj
    have h2 := ih (by omega)
    show nextOf p i ≤ nextOf p (m + 1)
    rw [h1]
    omega
theorem rwP_facts {p : List Int} (hp : PartP p) {i : Nat} (hi : i < p.length) : ∃ y : Nat, p[i] = (y : Int) ∧ y < (bks p p.length).length ∧ rwP p i = (bks p p.length).getD y [] ∧ 0 < (rwP p i).length := by
  have h1 := (hp.2 i hi).1
  rw [getD_of hi] at h1
  have h2 := nextOf_succ p i hi
  have h3 := nextOf_mono p (show i + 1 ≤ p.length from hi) (Nat.le_refl _)
  have h4 := bks_len hp p.length (Nat.le_refl _)
  obtain ⟨y, hy⟩ : ∃ y : Nat, p[i] = (y : Int) := ⟨p[i].toNat, by omega⟩
  have he : rwP p i = (bks p p.length).getD y [] := by unfold rwP; rw [getD_of hi, hy, Int.toNat_natCast]
  refine ⟨y, hy, by omega, he, ?_⟩
  rw [he, bks_row hp p.length (Nat.le_refl _), flt_len]
  exact List.length_pos_of_mem (fltN_mem.2 ⟨hi, by rw [getD_of hi, hy]⟩)
end Go.Proofs.Ytnkkgfeegaiakaa
