/- Plain words on tableaux of two rows. No condition. -/
import Derived.Test.YtnkkgfeegaiakaaGround
namespace Go.Proofs.Ytnkkgfeegaiakaa
/-- a place of one row: in range, and beyond the one ahead -/
def RowAt (n : Nat) (a : List Int) (i : Nat) : Prop := 1 ≤ a.getD i 0 ∧ a.getD i 0 ≤ 2 * n ∧ (0 < i → a.getD (i - 1) 0 < a.getD i 0)
instance (n : Nat) (a : List Int) (i : Nat) : Decidable (RowAt n a i) := by unfold RowAt; exact inferInstance
def RowsP (a b : List Int) : Prop := a.length = b.length ∧ a.length ≤ 8 ∧ (∀ i, i < a.length → RowAt a.length a i) ∧ (∀ i, i < a.length → RowAt a.length b i) ∧ (∀ i, i < a.length → a.getD i 0 < b.getD i 0) ∧
  ∀ i, i < a.length → ∀ k, k < a.length → a.getD i 0 ≠ b.getD k 0
instance (a b : List Int) : Decidable (RowsP a b) := by unfold RowsP; exact inferInstance
def rw_ (t : List (List Int)) (i : Nat) : List Int := t.getD i []
def TabP (t : List (List Int)) : Prop := t.length = 2 ∧ RowsP (rw_ t 0) (rw_ t 1)
instance (t : List (List Int)) : Decidable (TabP t) := by unfold TabP; exact inferInstance
theorem asc_lt {n : Nat} {a : List Int} (h : ∀ i, i < a.length → RowAt n a i) : ∀ j i, i < j → j < a.length → a.getD i 0 < a.getD j 0 := by
  intro j
  induction j with
  | zero => intro i hi; omega
  | succ j ih =>
    intro i hi hj
    have h1 := (h (j + 1) hj).2.2 (by omega)
    rw [Nat.add_sub_cancel] at h1
    rcases Nat.lt_or_ge i j with h2 | h2
    · exact Int.lt_trans (ih i h2 (by omega)) h1
    · rw [show i = j from by omega]; exact h1
/-- what the reference asks at row r, place i -/
def SpecAt (a b : List Int) (r i : Nat) : Prop := RowAt a.length (if r = 0 then a else b) i ∧ a.getD i 0 < b.getD i 0 ∧ ∀ k, k < a.length → a.getD i 0 ≠ b.getD k 0
theorem rowsP_spec {a b : List Int} (h1 : a.length = b.length) (h2 : a.length ≤ 8) : RowsP a b ↔ ∀ r, r < 2 → ∀ i, i < a.length → SpecAt a b r i := by
  constructor
  · rintro ⟨_, _, h3, h4, h5, h6⟩ r hr i hi
    refine ⟨?_, h5 i hi, h6 i hi⟩
    by_cases e : r = 0
    · rw [if_pos e]; exact h3 i hi
    · rw [if_neg e]; exact h4 i hi
  · intro h
    exact ⟨h1, h2, fun i hi => (h 0 (by omega) i hi).1, fun i hi => (h 1 (by omega) i hi).1, fun i hi => (h 0 (by omega) i hi).2.1, fun i hi => (h 0 (by omega) i hi).2.2⟩
/-- what the program asks: among the numbers before it none is equal -/
def accOf (a b : List Int) (r i : Nat) : List Int := if r = 0 then a.take i else a ++ b.take i
def ImplAt (a b : List Int) (r i : Nat) : Prop := RowAt a.length (if r = 0 then a else b) i ∧ (if r = 0 then a else b).getD i 0 ∉ accOf a b r i
theorem mem_take_getD {a : List Int} {i : Nat} {x : Int} (hi : i ≤ a.length) (h : x ∈ a.take i) : ∃ j, j < i ∧ a.getD j 0 = x := by
  obtain ⟨j, hj, e⟩ := List.mem_take_iff_getElem.1 h
  exact ⟨j, by omega, by rw [getD_of (by omega), e]⟩
theorem mem_getD {a : List Int} {x : Int} (h : x ∈ a) : ∃ j, j < a.length ∧ a.getD j 0 = x := by
  obtain ⟨j, hj, e⟩ := List.getElem_of_mem h
  exact ⟨j, hj, by rw [getD_of hj, e]⟩
theorem getD_mem {a : List Int} {j : Nat} (h : j < a.length) : a.getD j 0 ∈ a := by rw [getD_of h]; exact List.getElem_mem h
theorem rowsP_impl {a b : List Int} (h1 : a.length = b.length) (h2 : a.length ≤ 8) : RowsP a b ↔ (∀ r, r < 2 → ∀ i, i < a.length → ImplAt a b r i) ∧ ∀ i, i < a.length → a.getD i 0 < b.getD i 0 := by
  constructor
  · rintro ⟨_, _, h3, h4, h5, h6⟩
    refine ⟨fun r hr i hi => ?_, h5⟩
    by_cases e : r = 0
    · subst e
      refine ⟨h3 i hi, fun hm => ?_⟩
      obtain ⟨j, hj, e⟩ := mem_take_getD (by omega) hm
      have := asc_lt h3 i j hj hi
      simp only [if_true] at e
      omega
    · refine ⟨by rw [if_neg e]; exact h4 i hi, fun hm => ?_⟩
      rw [if_neg e] at hm
      unfold accOf at hm
      rw [if_neg e] at hm
      rcases List.mem_append.1 hm with hm | hm
      · obtain ⟨j, hj, e⟩ := mem_getD hm
        exact h6 j hj i hi e
      · obtain ⟨j, hj, e⟩ := mem_take_getD (by omega) hm
        have := asc_lt (n := a.length) (a := b) (fun k hk => h4 k (by omega)) i j hj (by omega)
        omega
  · rintro ⟨h, h5⟩
    refine ⟨h1, h2, fun i hi => (h 0 (by omega) i hi).1, fun i hi => (h 1 (by omega) i hi).1, h5, fun i hi k hk e => ?_⟩
    have hm := (h 1 (by omega) k hk).2
    apply hm
    simp only [accOf, if_neg (show ¬ (1 : Nat) = 0 from by omega)]
    rw [← e]
    exact List.mem_append_left _ (getD_mem hi)
end Go.Proofs.Ytnkkgfeegaiakaa
