/- Plain words on sorting by insertion: by exchanges of neighbours, and by cutting a list where a number belongs. No condition. -/
import Derived.Test.YtnkkgfeegaiakaaGround
namespace Go.Proofs.Ytnkkgfeegaiakaa
/-- the exchange of two neighbours -/
def swp (l : List Int) (j : Nat) : List Int := (l.set (j + 1) (l.getD j 0)).set j (l.getD (j + 1) 0)
theorem swp_len (l : List Int) (j : Nat) : (swp l j).length = l.length := by simp [swp]
/-- the number at j goes ahead as long as a greater one stands ahead of it -/
def insL : Nat → List Int → List Int
  | 0, l => l
  | j + 1, l => if l.getD (j + 1) 0 < l.getD j 0 then insL j (swp l j) else l
theorem insL_len : ∀ (j : Nat) (l : List Int), (insL j l).length = l.length := by
  intro j
  induction j with
  | zero => intro l; rfl
  | succ j ih =>
    intro l
    unfold insL
    split
    · rw [ih, swp_len]
    · rfl
def srt (l : List Int) (i : Nat) : List Int := (List.range i).foldl (fun o i => insL i o) l
theorem srt_succ (l : List Int) (i : Nat) : srt l (i + 1) = insL i (srt l i) := by simp [srt, List.range_succ]
theorem srt_len (l : List Int) (i : Nat) : (srt l i).length = l.length := by
  induction i with
  | zero => rfl
  | succ i ih => rw [srt_succ, insL_len, ih]
theorem srt_one (l : List Int) : srt l 1 = l := rfl
/-- where a number belongs among the first k -/
def pos (l : List Int) (x : Int) : Nat → Nat
  | 0 => 0
  | k + 1 => if x < l.getD k 0 then pos l x k else k + 1
theorem pos_le (l : List Int) (x : Int) : ∀ k, pos l x k ≤ k := by
  intro k
  induction k with
  | zero => exact Nat.le_refl _
  | succ k ih => unfold pos; split <;> omega
def insS (l : List Int) (x : Int) : List Int := l.take (pos l x l.length) ++ x :: l.drop (pos l x l.length)
theorem insS_len (l : List Int) (x : Int) : (insS l x).length = l.length + 1 := by
  unfold insS
  have := pos_le l x l.length
  simp only [List.length_append, List.length_take, List.length_cons, List.length_drop]
  omega
def srtS (f : List Int) (i : Nat) : List Int := (List.range i).foldl (fun o i => insS o (f.getD i 0)) []
theorem srtS_succ (f : List Int) (i : Nat) : srtS f (i + 1) = insS (srtS f i) (f.getD i 0) := by simp [srtS, List.range_succ]
theorem srtS_len (f : List Int) (i : Nat) : (srtS f i).length = i := by
  induction i with
  | zero => rfl
  | succ i ih => rw [srtS_succ, insS_len, ih]
theorem pos_append (A B : List Int) (x : Int) : ∀ k, k ≤ A.length → pos (A ++ B) x k = pos A x k := by
  intro k
  induction k with
  | zero => intro _; rfl
  | succ k ih =>
    intro hk
    unfold pos
    have e : (A ++ B).getD k 0 = A.getD k 0 := by simp [List.getD, List.getElem?_append_left (show k < A.length by omega)]
    rw [e, ih (by omega)]
theorem insL_cut : ∀ (A : List Int) (x : Int) (C : List Int) (j : Nat), A.length = j → insL j (A ++ x :: C) = A.take (pos A x j) ++ x :: A.drop (pos A x j) ++ C := by
  intro A
  suffices ∀ (j : Nat) (A : List Int) (x : Int) (C : List Int), A.length = j → insL j (A ++ x :: C) = A.take (pos A x j) ++ x :: A.drop (pos A x j) ++ C from fun x C j h => this j A x C h
  intro j
  induction j with
  | zero =>
    intro A x C h
    rw [List.eq_nil_of_length_eq_zero h]
    simp [insL, pos]
  | succ j ih =>
    intro A x C h
    rcases List.eq_nil_or_concat A with e | ⟨B, y, e⟩
    · rw [e] at h; simp at h
    · rw [List.concat_eq_append] at e
      subst e
      have hB : B.length = j := by simp at h; exact h
      have g0 : (B ++ [y] ++ x :: C).getD j 0 = y := by
        rw [List.append_assoc]; simp [List.getD, ← hB]
      have g1 : (B ++ [y] ++ x :: C).getD (j + 1) 0 = x := by
        have : (B ++ [y]).length = j + 1 := by simp [hB]
        simp [List.getD, ← this]
      have g2 : (B ++ [y]).getD j 0 = y := by simp [List.getD, ← hB]
      unfold insL pos
      rw [g0, g1, g2]
      by_cases hxy : x < y
      · rw [if_pos hxy, if_pos hxy]
        have hs : swp (B ++ [y] ++ x :: C) j = B ++ x :: (y :: C) := by
          unfold swp
          rw [g0, g1]
          subst hB
          simp [List.set_append_right]
        rw [hs, ih B x (y :: C) hB, pos_append B [y] x j (by omega)]
        have hp := pos_le B x j
        rw [List.take_append_of_le_length (by omega), List.drop_append_of_le_length (by omega)]
        simp
      · rw [if_neg hxy, if_neg hxy]
        have hl : (B ++ [y]).length = j + 1 := by simp [hB]
        rw [List.take_of_length_le (by omega), List.drop_of_length_le (by omega)]
        simp
theorem srt_eq (f : List Int) : ∀ i, i ≤ f.length → srt f i = srtS f i ++ f.drop i := by
  intro i
  induction i with
  | zero => intro _; simp [srt, srtS]
  | succ i ih =>
    intro hi
    have hd : f.drop i = f[i] :: f.drop (i + 1) := List.drop_eq_getElem_cons hi
    rw [srt_succ, ih (by omega), hd, insL_cut _ _ _ _ (srtS_len f i), srtS_succ, getD_of hi]
    unfold insS
    rw [srtS_len]
theorem srt_all (f : List Int) : srt f f.length = srtS f f.length := by
  rw [srt_eq f _ (Nat.le_refl _)]; simp
end Go.Proofs.Ytnkkgfeegaiakaa
