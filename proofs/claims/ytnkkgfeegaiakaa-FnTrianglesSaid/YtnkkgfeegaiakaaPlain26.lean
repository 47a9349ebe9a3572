/- Plain words on sorting by insertion, by any order on any things: by exchanges of neighbours, and by cutting a list where a thing belongs. No condition. -/
import Derived.Test.YtnkkgfeegaiakaaGround
namespace Go.Proofs.Ytnkkgfeegaiakaa
section
variable {α : Type} (d : α) (lt : α → α → Bool)
/-- the exchange of two neighbours -/
def swpG (l : List α) (j : Nat) : List α := (l.set (j + 1) (l.getD j d)).set j (l.getD (j + 1) d)
theorem swpG_len (l : List α) (j : Nat) : (swpG d l j).length = l.length := by simp [swpG]
/-- the thing at j goes ahead as long as a greater one stands ahead of it -/
def insG : Nat → List α → List α
  | 0, l => l
  | j + 1, l => if lt (l.getD (j + 1) d) (l.getD j d) = true then insG j (swpG d l j) else l
theorem insG_len : ∀ (j : Nat) (l : List α), (insG d lt j l).length = l.length := by
  intro j
  induction j with
  | zero => intro l; rfl
  | succ j ih =>
    intro l
    unfold insG
    split
    · rw [ih, swpG_len]
    · rfl
def srtG (l : List α) (i : Nat) : List α := (List.range i).foldl (fun o i => insG d lt i o) l
theorem srtG_succ (l : List α) (i : Nat) : srtG d lt l (i + 1) = insG d lt i (srtG d lt l i) := by simp [srtG, List.range_succ]
theorem srtG_len (l : List α) (i : Nat) : (srtG d lt l i).length = l.length := by
  induction i with
  | zero => rfl
  | succ i ih => rw [srtG_succ, insG_len, ih]
theorem srtG_one (l : List α) : srtG d lt l 1 = l := rfl
/-- where a thing belongs among the first k -/
def posG (l : List α) (x : α) : Nat → Nat
  | 0 => 0
  | k + 1 => if lt x (l.getD k d) = true then posG l x k else k + 1
theorem posG_le (l : List α) (x : α) : ∀ k, posG d lt l x k ≤ k := by
  intro k
  induction k with
  | zero => exact Nat.le_refl _
  | succ k ih => unfold posG; split <;> omega
def putG (l : List α) (x : α) : List α := l.take (posG d lt l x l.length) ++ x :: l.drop (posG d lt l x l.length)
theorem putG_len (l : List α) (x : α) : (putG d lt l x).length = l.length + 1 := by
  unfold putG
  have := posG_le d lt l x l.length
  simp only [List.length_append, List.length_take, List.length_cons, List.length_drop]
  omega
/-- each thing of a list put in order, from the first one on -/
def putsG (f : List α) : List α := f.foldl (putG d lt) []
theorem putsG_snoc (f : List α) (x : α) : putsG d lt (f ++ [x]) = putG d lt (putsG d lt f) x := by simp [putsG, List.foldl_append]
theorem putsG_len (f : List α) : (putsG d lt f).length = f.length := by
  have h : ∀ (f o : List α), (f.foldl (putG d lt) o).length = o.length + f.length := by
    intro f
    induction f with
    | nil => intro o; rfl
    | cons x f ih => intro o; rw [List.foldl_cons, ih, putG_len, List.length_cons]; omega
  have := h f []
  simpa [putsG] using this
theorem posG_append (A B : List α) (x : α) : ∀ k, k ≤ A.length → posG d lt (A ++ B) x k = posG d lt A x k := by
  intro k
  induction k with
  | zero => intro _; rfl
  | succ k ih =>
    intro hk
    unfold posG
    have e : (A ++ B).getD k d = A.getD k d := by simp [List.getD, List.getElem?_append_left (show k < A.length by omega)]
    rw [e, ih (by omega)]
theorem insG_cut : ∀ (j : Nat) (A : List α) (x : α) (C : List α), A.length = j → insG d lt j (A ++ x :: C) = A.take (posG d lt A x j) ++ x :: A.drop (posG d lt A x j) ++ C := by
  intro j
  induction j with
  | zero =>
    intro A x C h
    rw [List.eq_nil_of_length_eq_zero h]
    simp [insG, posG]
  | succ j ih =>
    intro A x C h
    rcases List.eq_nil_or_concat A with e | ⟨B, y, e⟩
    · rw [e] at h; simp at h
    · rw [List.concat_eq_append] at e
      subst e
      have hB : B.length = j := by simp at h; exact h
      have g0 : (B ++ [y] ++ x :: C).getD j d = y := by
        rw [List.append_assoc]; simp [List.getD, ← hB]
      have g1 : (B ++ [y] ++ x :: C).getD (j + 1) d = x := by
        have : (B ++ [y]).length = j + 1 := by simp [hB]
        simp [List.getD, ← this]
      have g2 : (B ++ [y]).getD j d = y := by simp [List.getD, ← hB]
      unfold insG posG
      rw [g0, g1, g2]
      by_cases hxy : lt x y = true
      · rw [if_pos hxy, if_pos hxy]
        have hs : swpG d (B ++ [y] ++ x :: C) j = B ++ x :: (y :: C) := by
          unfold swpG
          rw [g0, g1]
          subst hB
          simp [List.set_append_right]
        rw [hs, ih B x (y :: C) hB, posG_append d lt B [y] x j (by omega)]
        have hp := posG_le d lt B x j
        rw [List.take_append_of_le_length (by omega), List.drop_append_of_le_length (by omega)]
        simp
      · rw [if_neg hxy, if_neg hxy]
        have hl : (B ++ [y]).length = j + 1 := by simp [hB]
        rw [List.take_of_length_le (by omega), List.drop_of_length_le (by omega)]
        simp
theorem srtG_eq (f : List α) : ∀ i, i ≤ f.length → srtG d lt f i = putsG d lt (f.take i) ++ f.drop i := by
  intro i
  induction i with
  | zero => intro _; simp [srtG, putsG]
  | succ i ih =>
    intro hi
    have hd : f.drop i = f[i] :: f.drop (i + 1) := List.drop_eq_getElem_cons hi
    have hl : (putsG d lt (f.take i)).length = i := by rw [putsG_len, List.length_take]; omega
    rw [srtG_succ, ih (by omega), hd, insG_cut d lt _ _ _ _ hl, List.take_succ_eq_append_getElem hi, putsG_snoc]
    unfold putG
    rw [hl]
theorem srtG_all (f : List α) : srtG d lt f f.length = putsG d lt f := by
  rw [srtG_eq d lt f _ (Nat.le_refl _)]; simp
end
/-- the same by a part of the things that the order looks at -/
theorem posG_map {α β : Type} (d : α) (e : β) (lt : β → β → Bool) (f : α → β) (_he : f d = e) (l : List α) (x : α) : ∀ k, k ≤ l.length → posG d (fun a b => lt (f a) (f b)) l x k = posG e lt (l.map f) (f x) k := by
  intro k
  induction k with
  | zero => intro _; rfl
  | succ k ih =>
    intro hk
    have h1 : f (l.getD k d) = (l.map f).getD k e := by
      rw [getD_of (show k < l.length by omega), getD_of (show k < (l.map f).length by rw [List.length_map]; omega), List.getElem_map]
    unfold posG
    rw [ih (by omega), h1]
theorem putG_map {α β : Type} (d : α) (e : β) (lt : β → β → Bool) (f : α → β) (he : f d = e) (l : List α) (x : α) : (putG d (fun a b => lt (f a) (f b)) l x).map f = putG e lt (l.map f) (f x) := by
  unfold putG
  rw [posG_map d e lt f he l x _ (Nat.le_refl _), List.length_map, List.map_append, List.map_cons, List.map_take, List.map_drop]
theorem putsG_map {α β : Type} (d : α) (e : β) (lt : β → β → Bool) (f : α → β) (he : f d = e) (l : List α) : (putsG d (fun a b => lt (f a) (f b)) l).map f = putsG e lt (l.map f) := by
  have h : ∀ (l o : List α), (l.foldl (putG d (fun a b => lt (f a) (f b))) o).map f = (l.map f).foldl (putG e lt) (o.map f) := by
    intro l
    induction l with
    | nil => intro o; rfl
    | cons x l ih => intro o; rw [List.foldl_cons, ih, putG_map d e lt f he, List.map_cons, List.foldl_cons]
  exact h l []
end Go.Proofs.Ytnkkgfeegaiakaa
