/- Plain words on blocks: the fold that gathers them. No condition. -/
import Derived.Test.YtnkkgfeegaiakaaGround
namespace Go.Proofs.Ytnkkgfeegaiakaa
def grow1 (out : List (List Int)) (b : Int) : List (List Int) := if b = (out.length : Int) then out ++ [[]] else out
def bkStep (out : List (List Int)) (i : Nat) (b : Int) : List (List Int) := (grow1 out b).set b.toNat ((grow1 out b).getD b.toNat [] ++ [(i : Int)])
def bks (p : List Int) (k : Nat) : List (List Int) := (List.range k).foldl (fun out i => bkStep out i (p.getD i 0)) []
theorem bks_zero (p : List Int) : bks p 0 = [] := rfl
theorem bks_succ (p : List Int) (k : Nat) : bks p (k + 1) = bkStep (bks p k) k (p.getD k 0) := by simp [bks, List.range_succ]
def blocksR (p : List Int) : List (List Int) := if PartP p then bks p p.length else []
theorem bks_len {p : List Int} (hp : PartP p) : ∀ k, k ≤ p.length → ((bks p k).length : Int) = nextOf p k := by
  intro k
  induction k with
  | zero => intro _; rfl
  | succ k ih =>
    intro hk
    have h1 := ih (by omega)
    have h2 := hp.2 k (by omega)
    unfold PartOk at h2
    rw [nextOf_succ p k (by omega), bks_succ, bkStep, List.length_set, grow1]
    rw [getD_of (show k < p.length from by omega)] at h2 ⊢
    by_cases h : p[k] = ((bks p k).length : Int)
    · rw [if_pos h, List.length_append, List.length_singleton]; omega
    · rw [if_neg h]; omega
theorem nextOf_le_k (p : List Int) : PartP p → ∀ k, k ≤ p.length → nextOf p k ≤ k := by
  intro hp k
  induction k with
  | zero => intro _; exact Int.le_refl _
  | succ k ih =>
    intro hk
    have h1 := ih (by omega)
    have h2 := hp.2 k (by omega)
    unfold PartOk at h2
    rw [getD_of (show k < p.length from by omega)] at h2
    rw [nextOf_succ p k (by omega)]
    omega
theorem bks_facts {p : List Int} (hp : PartP p) {k : Nat} (hk : k < p.length) : 0 ≤ p[k] ∧ p[k] ≤ ((bks p k).length : Int) ∧ (bks p k).length ≤ k := by
  have h1 := bks_len hp k (by omega)
  have h2 := hp.2 k hk
  have h3 := nextOf_le_k p hp k (by omega)
  unfold PartOk at h2
  rw [getD_of hk] at h2
  omega
theorem getD_set_ne {l : List (List Int)} {i j : Nat} {y : List Int} (h : i ≠ j) : (l.set j y).getD i [] = l.getD i [] := by simp [List.getD, List.getElem?_set_ne (Ne.symm h)]
theorem getD_set_eq {l : List (List Int)} {j : Nat} {y : List Int} (h : j < l.length) : (l.set j y).getD j [] = y := by simp [List.getD, h]
theorem bks_rows (p : List Int) : ∀ k b, ((bks p k).getD b []).length ≤ k := by
  intro k
  induction k with
  | zero => intro b; simp [bks_zero]
  | succ k ih =>
    intro b
    rw [bks_succ, bkStep]
    have hg : ∀ b, ((grow1 (bks p k) (p.getD k 0)).getD b []).length ≤ k := by
      intro b
      unfold grow1
      by_cases h : p.getD k 0 = ((bks p k).length : Int)
      · rw [if_pos h]
        rcases Nat.lt_or_ge b (bks p k).length with h1 | h1
        · have := ih b
          simpa [List.getD, List.getElem?_append_left h1] using this
        · rcases Nat.eq_or_lt_of_le h1 with h2 | h2
          · subst h2; simp [List.getD]
          · rw [List.getD, List.getElem?_eq_none (by simp; omega)]; simp
      · rw [if_neg h]; exact ih b
    by_cases e : b = (p.getD k 0).toNat
    · subst e
      have h1 := hg (p.getD k 0).toNat
      generalize grow1 (bks p k) (p.getD k 0) = o at h1 ⊢
      rcases Nat.lt_or_ge (p.getD k 0).toNat o.length with h2 | h2
      · generalize (p.getD k 0).toNat = q at h1 h2 ⊢
        have : (o.set q (o.getD q [] ++ [(k : Int)])).getD q [] = o.getD q [] ++ [(k : Int)] := by simp [List.getD, h2]
        rw [this, List.length_append, List.length_singleton]; omega
      · rw [List.getD, List.getElem?_eq_none (by simp; exact h2)]; simp
    · have h1 := hg b
      generalize grow1 (bks p k) (p.getD k 0) = o at h1 ⊢
      rw [getD_set_ne e]; omega
end Go.Proofs.Ytnkkgfeegaiakaa
