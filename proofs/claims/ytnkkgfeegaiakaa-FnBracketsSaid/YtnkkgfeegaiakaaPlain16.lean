/- Plain words on the path of a tableau: the numbers of its two rows are all numbers up to twice its length. No condition. -/
import Derived.Test.YtnkkgfeegaiakaaPlain8
import Derived.Test.YtnkkgfeegaiakaaGround
namespace Go.Proofs.Ytnkkgfeegaiakaa
/-- different numbers below n are at most n -/
theorem nodup_le : ∀ (n : Nat) (l : List Nat), l.Nodup → (∀ x ∈ l, x < n) → l.length ≤ n := by
  intro n
  induction n with
  | zero =>
    intro l _ h
    cases l with
    | nil => simp
    | cons x l => exact absurd (h x (by simp)) (by omega)
  | succ n ih =>
    intro l hn h
    have h1 := ih (l.erase n) (hn.erase n) (fun x hx => by
      have h2 := (hn.mem_erase_iff).1 hx
      have := h x h2.2
      have := h2.1
      omega)
    have h2 : l.length ≤ (l.erase n).length + 1 := by
      rw [List.length_erase]
      split <;> omega
    omega
/-- n different numbers below n are all of them -/
theorem nodup_all {n : Nat} {l : List Nat} (hn : l.Nodup) (h : ∀ x ∈ l, x < n) (hl : l.length = n) : ∀ x, x < n → x ∈ l := by
  intro x hx
  rcases Classical.em (x ∈ l) with h1 | h1
  · exact h1
  · have := nodup_le n (x :: l) (List.nodup_cons.2 ⟨h1, hn⟩) (fun y hy => by
      rcases List.mem_cons.1 hy with e | e
      · rw [e]; exact hx
      · exact h y e)
    rw [List.length_cons] at this
    omega
theorem RowsP.bounds {a b : List Int} (h : RowsP a b) {i : Nat} (hi : i < a.length) : 1 ≤ a.getD i 0 ∧ a.getD i 0 ≤ 2 * (a.length : Int) ∧ 1 ≤ b.getD i 0 ∧ b.getD i 0 ≤ 2 * (a.length : Int) :=
  ⟨(h.2.2.1 i hi).1, (h.2.2.1 i hi).2.1, (h.2.2.2.1 i hi).1, (h.2.2.2.1 i hi).2.1⟩
theorem RowsP.asc {a b : List Int} (h : RowsP a b) {i j : Nat} (hij : i < j) (hj : j < a.length) : a.getD i 0 < a.getD j 0 ∧ b.getD i 0 < b.getD j 0 :=
  ⟨asc_lt h.2.2.1 j i hij hj, asc_lt (n := a.length) (a := b) (fun i hi => h.2.2.2.1 i (by rw [h.1]; exact hi)) j i hij (by rw [← h.1]; exact hj)⟩
/-- each number up to twice the length stands in one of the rows -/
theorem RowsP.cover {a b : List Int} (h : RowsP a b) {p : Nat} (hp : p < 2 * a.length) : (∃ i, i < a.length ∧ a.getD i 0 = (p : Int) + 1) ∨ (∃ i, i < a.length ∧ b.getD i 0 = (p : Int) + 1) := by
  have hA : ∀ i, i < a.length → a.getD i 0 = (((a.getD i 0).toNat - 1 : Nat) : Int) + 1 := fun i hi => by have := h.bounds hi; omega
  have hB : ∀ i, i < a.length → b.getD i 0 = (((b.getD i 0).toNat - 1 : Nat) : Int) + 1 := fun i hi => by have := h.bounds hi; omega
  let l : List Nat := (List.range a.length).map (fun i => (a.getD i 0).toNat - 1) ++ (List.range a.length).map (fun i => (b.getD i 0).toNat - 1)
  have hl : l.length = 2 * a.length := by simp [l]; omega
  have hm : ∀ x ∈ l, x < 2 * a.length := by
    intro x hx
    rcases List.mem_append.1 hx with hx | hx
    · obtain ⟨i, hi, rfl⟩ := List.mem_map.1 hx
      have := h.bounds (List.mem_range.1 hi); omega
    · obtain ⟨i, hi, rfl⟩ := List.mem_map.1 hx
      have := h.bounds (List.mem_range.1 hi); omega
  have hn : l.Nodup := by
    refine List.nodup_append.2 ⟨?_, ?_, ?_⟩
    · refine List.Pairwise.map _ (R := fun i j => i < j ∧ j < a.length) (fun i j hij => ?_) ?_
      · have h1 := h.bounds (show i < a.length by omega)
        have h2 := h.bounds hij.2
        have := (h.asc hij.1 hij.2).1
        intro e; omega
      · refine List.pairwise_iff_getElem.2 fun i j hi hj hij => ?_
        simp at hi hj ⊢; omega
    · refine List.Pairwise.map _ (R := fun i j => i < j ∧ j < a.length) (fun i j hij => ?_) ?_
      · have h1 := h.bounds (show i < a.length by omega)
        have h2 := h.bounds hij.2
        have := (h.asc hij.1 hij.2).2
        intro e; omega
      · refine List.pairwise_iff_getElem.2 fun i j hi hj hij => ?_
        simp at hi hj ⊢; omega
    · intro x hx y hy e
      obtain ⟨i, hi, rfl⟩ := List.mem_map.1 hx
      obtain ⟨j, hj, rfl⟩ := List.mem_map.1 hy
      have h1 := hA i (List.mem_range.1 hi)
      have h2 := hB j (List.mem_range.1 hj)
      exact h.2.2.2.2.2 i (List.mem_range.1 hi) j (List.mem_range.1 hj) (by omega)
  have := nodup_all hn hm hl p hp
  rcases List.mem_append.1 this with hx | hx
  · obtain ⟨i, hi, e⟩ := List.mem_map.1 hx
    have := hA i (List.mem_range.1 hi)
    exact .inl ⟨i, List.mem_range.1 hi, by omega⟩
  · obtain ⟨i, hi, e⟩ := List.mem_map.1 hx
    have := hB i (List.mem_range.1 hi)
    exact .inr ⟨i, List.mem_range.1 hi, by omega⟩
def potL (a : List Int) (m : Nat) : List UInt8 := (List.range m).map fun (i : Nat) => if (i : Int) + 1 ∈ a then 117 else 100
theorem potL_len (a : List Int) (m : Nat) : (potL a m).length = m := by simp [potL]
theorem potL_succ (a : List Int) (m : Nat) : potL a (m + 1) = potL a m ++ [if (m : Int) + 1 ∈ a then 117 else 100] := by simp [potL, List.range_succ]
def potR (t : List (List Int)) : List UInt8 × Bool := if TabP t then (potL (rw_ t 0) (2 * (rw_ t 0).length), true) else ([], false)
/-- what the program fills in -/
def fillW (a b : List Int) (i : Nat) : List UInt8 := (List.range i).foldl (fun w i => (w.set (a.getD i 0 - 1).toNat 117).set (b.getD i 0 - 1).toNat 100) (List.replicate (2 * a.length) 0)
theorem fillW_succ (a b : List Int) (i : Nat) : fillW a b (i + 1) = ((fillW a b i).set (a.getD i 0 - 1).toNat 117).set (b.getD i 0 - 1).toNat 100 := by simp [fillW, List.range_succ]
theorem fillW_len (a b : List Int) (i : Nat) : (fillW a b i).length = 2 * a.length := by
  induction i with
  | zero => simp [fillW]
  | succ i ih => rw [fillW_succ]; simp [ih]
theorem fillW_at {a b : List Int} (h : RowsP a b) : ∀ i, i ≤ a.length → (∀ j, j < i → (fillW a b i).getD (a.getD j 0 - 1).toNat 0 = 117) ∧ ∀ j, j < i → (fillW a b i).getD (b.getD j 0 - 1).toNat 0 = 100 := by
  intro i
  induction i with
  | zero => intro _; exact ⟨fun j hj => by omega, fun j hj => by omega⟩
  | succ i ih =>
    intro hi
    obtain ⟨h1, h2⟩ := ih (by omega)
    have hb := h.bounds (show i < a.length by omega)
    have hl := fillW_len a b i
    have set_get : ∀ (l : List UInt8) (k x : Nat) (c : UInt8), (l.set k c).getD x 0 = if k = x ∧ k < l.length then c else l.getD x 0 := by
      intro l k x c
      simp only [List.getD, List.getElem?_set]
      by_cases e : k = x
      · subst e
        by_cases hk : k < l.length
        · simp [hk]
        · simp [hk]
      · simp [e]
    rw [fillW_succ]
    refine ⟨fun j hj => ?_, fun j hj => ?_⟩
    · have hbj := h.bounds (show j < a.length by omega)
      have hne := h.2.2.2.2.2 j (by omega) i (by omega)
      rw [set_get, if_neg (fun e => hne (by omega)), set_get]
      by_cases e : (a.getD i 0 - 1).toNat = (a.getD j 0 - 1).toNat
      · rw [if_pos ⟨e, by rw [hl]; omega⟩]
      · rw [if_neg (fun x => e x.1)]
        refine h1 j ?_
        rcases Nat.lt_or_ge j i with q | q
        · exact q
        · exact absurd (by rw [show j = i from by omega]) e
    · have hbj := h.bounds (show j < a.length by omega)
      have hne := h.2.2.2.2.2 i (by omega) j (by omega)
      rw [set_get]
      by_cases e : (b.getD i 0 - 1).toNat = (b.getD j 0 - 1).toNat
      · rw [if_pos ⟨e, by rw [List.length_set, hl]; omega⟩]
      · rw [if_neg (fun x => e x.1), set_get, if_neg (fun x => hne (by omega))]
        refine h2 j ?_
        rcases Nat.lt_or_ge j i with q | q
        · exact q
        · exact absurd (by rw [show j = i from by omega]) e
theorem fillW_all {a b : List Int} (h : RowsP a b) : fillW a b a.length = potL a (2 * a.length) := by
  obtain ⟨h1, h2⟩ := fillW_at h a.length (Nat.le_refl _)
  apply List.ext_getElem
  · rw [fillW_len, potL_len]
  · intro p hp hp'
    rw [fillW_len] at hp
    have e : (fillW a b a.length)[p] = (fillW a b a.length).getD p 0 := (getD_of (by rw [fillW_len]; exact hp) 0).symm
    rw [e]
    simp only [potL, List.getElem_map, List.getElem_range]
    rcases h.cover hp with ⟨i, hi, ei⟩ | ⟨i, hi, ei⟩
    · have := h1 i hi
      rw [ei, show ((p : Int) + 1 - 1).toNat = p by omega] at this
      rw [this, if_pos]
      rw [← ei]; exact getD_mem hi
    · have := h2 i hi
      rw [ei, show ((p : Int) + 1 - 1).toNat = p by omega] at this
      rw [this, if_neg]
      intro hm
      obtain ⟨j, hj, ej⟩ := mem_getD hm
      exact h.2.2.2.2.2 j hj i hi (by rw [ej, ei])
end Go.Proofs.Ytnkkgfeegaiakaa
