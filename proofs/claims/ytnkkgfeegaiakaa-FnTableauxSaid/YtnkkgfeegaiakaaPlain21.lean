/- Plain words on the promotion of a tableau: a hole slides along the upper row, then along the lower one. No condition. -/
import Derived.Test.YtnkkgfeegaiakaaPlain16
namespace Go.Proofs.Ytnkkgfeegaiakaa
/-- numbers from 0 to 17 -/
def Bd (l : List Int) : Prop := ∀ i, 0 ≤ l.getD i 0 ∧ l.getD i 0 ≤ 17
theorem getD_set_ (l : List Int) (k x : Nat) (c : Int) : (l.set k c).getD x 0 = if k = x ∧ k < l.length then c else l.getD x 0 := by
  simp only [List.getD, List.getElem?_set]
  by_cases e : k = x
  · subst e
    by_cases hk : k < l.length
    · simp [hk]
    · simp [hk]
  · simp [e]
theorem Bd.set {l : List Int} (h : Bd l) (k : Nat) {c : Int} (h0 : 0 ≤ c) (h1 : c ≤ 17) : Bd (l.set k c) := by
  intro i
  rw [getD_set_]
  split
  · exact ⟨h0, h1⟩
  · exact h i
theorem Bd.at_ {l : List Int} (h : Bd l) {k : Nat} (hk : k < l.length) : 0 ≤ l[k] ∧ l[k] ≤ 17 := by
  have := h k; rw [getD_of hk] at this; exact this
/-- the upper row behind k slides -/
def shA (a : List Int) (k : Nat) : List Int := (List.range k).foldl (fun o i => o.set i (o.getD (i + 1) 0)) a
theorem shA_zero (a : List Int) : shA a 0 = a := rfl
theorem shA_succ (a : List Int) (k : Nat) : shA a (k + 1) = (shA a k).set k ((shA a k).getD (k + 1) 0) := by simp [shA, List.range_succ]
theorem shA_len (a : List Int) (k : Nat) : (shA a k).length = a.length := by
  induction k with
  | zero => rfl
  | succ k ih => rw [shA_succ, List.length_set, ih]
theorem shA_bd {a : List Int} (h : Bd a) (k : Nat) : Bd (shA a k) := by
  induction k with
  | zero => exact h
  | succ k ih => rw [shA_succ]; exact ih.set _ (ih (k + 1)).1 (ih (k + 1)).2
/-- does the hole slide on in the upper row? -/
def slid (a b : List Int) (k : Nat) : Bool := decide (k + 1 < a.length) && decide ((shA a k).getD (k + 1) 0 < b.getD k 0)
def stopA (a b : List Int) : Nat := ((List.range a.length).find? fun k => !slid a b k).getD 0
theorem stopA_is {a b : List Int} {k : Nat} (hk : k < a.length) (h : ∀ i, i < k → slid a b i = true) (hs : slid a b k = false) : stopA a b = k := by
  unfold stopA
  have : (List.range a.length).find? (fun k => !slid a b k) = some k := by
    rw [List.find?_eq_some_iff_append]
    refine ⟨by simp [hs], List.range k, List.range' (k + 1) (a.length - k - 1), ?_, ?_⟩
    · rw [List.range_eq_range', List.range_eq_range', show a.length = k + ((a.length - k - 1) + 1) by omega, ← List.range'_append_1, Nat.zero_add, List.range'_succ]
      congr 3
      omega
    · intro i hi
      simp [h i (List.mem_range.1 hi)]
  rw [this]; rfl
/-- the lower row behind k slides from m on -/
def shB (b : List Int) (m k : Nat) : List Int := (List.range k).foldl (fun o x => o.set (m + x) (o.getD (m + x + 1) 0)) b
theorem shB_zero (b : List Int) (m : Nat) : shB b m 0 = b := rfl
theorem shB_succ (b : List Int) (m k : Nat) : shB b m (k + 1) = (shB b m k).set (m + k) ((shB b m k).getD (m + k + 1) 0) := by simp [shB, List.range_succ]
theorem shB_len (b : List Int) (m k : Nat) : (shB b m k).length = b.length := by
  induction k with
  | zero => rfl
  | succ k ih => rw [shB_succ, List.length_set, ih]
theorem shB_bd {b : List Int} (h : Bd b) (m k : Nat) : Bd (shB b m k) := by
  induction k with
  | zero => exact h
  | succ k ih => rw [shB_succ]; exact ih.set _ (ih (m + k + 1)).1 (ih (m + k + 1)).2
def upA (a b : List Int) : List Int := (shA a (stopA a b)).set (stopA a b) (b.getD (stopA a b) 0)
def loB (a b : List Int) : List Int := (shB b (stopA a b) (a.length - 1 - stopA a b)).set (a.length - 1) (2 * (a.length : Int) + 1)
theorem take_succ_get' {α : Type} (l : List α) (k : Nat) (h : k < l.length) : l.take (k + 1) = l.take k ++ [l[k]] := List.take_succ_eq_append_getElem h
theorem drop_get_cons' {α : Type} (l : List α) (k : Nat) (h : k < l.length) : l.drop k = l[k] :: l.drop (k + 1) := List.drop_eq_getElem_cons h
/-- the first k numbers less by one -/
def dec (l : List Int) (k : Nat) : List Int := (l.take k).map (fun x => x - 1) ++ l.drop k
theorem dec_zero (l : List Int) : dec l 0 = l := by simp [dec]
theorem dec_len (l : List Int) (k : Nat) : (dec l k).length = l.length := by
  simp only [dec, List.length_append, List.length_map, List.length_take, List.length_drop]; omega
theorem dec_get {l : List Int} {k : Nat} (h : k < l.length) : (dec l k)[k]'(by rw [dec_len]; exact h) = l[k] := by
  unfold dec
  rw [List.getElem_append_right (by simp; omega)]
  have : k - min k l.length = 0 := by omega
  simp [this]
theorem dec_succ {l : List Int} {k : Nat} (h : k < l.length) : dec l (k + 1) = (dec l k).set k (l[k] - 1) := by
  unfold dec
  rw [take_succ_get' _ _ h, drop_get_cons' _ _ h, List.map_append, List.set_append_right _ _ (by simp; omega)]
  rw [show k - ((l.take k).map fun x => x - 1).length = 0 by simp; omega, List.set_cons_zero, List.map_cons, List.map_nil, List.append_assoc]
  rfl
def proR (t : List (List Int)) : List (List Int) × Bool := if TabP t then (if (rw_ t 0).length = 0 then ([[], []], true) else ([dec (upA (rw_ t 0) (rw_ t 1)) (rw_ t 0).length, dec (loB (rw_ t 0) (rw_ t 1)) (rw_ t 0).length], true)) else ([], false)
theorem RowsP.bd {a b : List Int} (h : RowsP a b) : Bd a ∧ Bd b := by
  have h8 := h.2.1
  have hl := h.1
  refine ⟨fun i => ?_, fun i => ?_⟩
  · rcases Nat.lt_or_ge i a.length with hi | hi
    · have := h.bounds hi; omega
    · have : a.getD i 0 = 0 := by simp [List.getD, List.getElem?_eq_none hi]
      omega
  · rcases Nat.lt_or_ge i b.length with hi | hi
    · have := h.bounds (show i < a.length by omega); omega
    · have : b.getD i 0 = 0 := by simp [List.getD, List.getElem?_eq_none hi]
      omega
end Go.Proofs.Ytnkkgfeegaiakaa
