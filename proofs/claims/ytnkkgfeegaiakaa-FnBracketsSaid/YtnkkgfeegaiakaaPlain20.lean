/- Plain words on a path gone back, and on the path of a tableau: both are paths. No condition. -/
import Derived.Test.YtnkkgfeegaiakaaPlain16
import Derived.Test.YtnkkgfeegaiakaaPlain15
namespace Go.Proofs.Ytnkkgfeegaiakaa
def flipC (c : UInt8) : UInt8 := if c.toNat = 117 then 100 else 117
def revD (l : List UInt8) : List UInt8 := (l.reverse).map flipC
def revT (l : List UInt8) (m : Nat) : List UInt8 := revD (l.drop m)
theorem revT_full (l : List UInt8) : revT l l.length = [] := by simp [revT, revD]
theorem revT_zero (l : List UInt8) : revT l 0 = revD l := by simp [revT]
theorem revT_pred {l : List UInt8} {m : Nat} (h : m < l.length) : revT l m = revT l (m + 1) ++ [flipC l[m]] := by
  unfold revT revD
  rw [drop_get_cons _ _ h, List.reverse_cons, List.map_append]; rfl
theorem revT_len (l : List UInt8) (m : Nat) : (revT l m).length = l.length - m := by simp [revT, revD]
def rvR (l : List UInt8) : List UInt8 × Bool := if DyckP l then (revD l, true) else ([], false)
theorem rev_fold : ∀ (l : List UInt8) (a b : Nat), l.foldl stepD (some a) = some b → (revD l).foldl stepD (some b) = some a := by
  intro l
  induction l with
  | nil => intro a b h; simpa [revD] using h.symm
  | cons c l ih =>
    intro a b h
    rw [List.foldl_cons] at h
    have e : revD (c :: l) = revD l ++ [flipC c] := by simp [revD]
    rw [e, List.foldl_append]
    cases hs : stepD (some a) c with
    | none => rw [hs, scan_none] at h; cases h
    | some a' =>
      rw [hs] at h
      rw [ih a' b h]
      simp only [List.foldl_cons, List.foldl_nil]
      simp only [stepD] at hs
      split at hs
      · rename_i hu
        injection hs with hs
        unfold flipC
        rw [if_pos hu]
        subst hs
        simp [stepD]
      · rename_i hu
        split at hs
        · split at hs
          · cases hs
          · injection hs with hs
            unfold flipC
            rw [if_neg hu]
            subst hs
            simp [stepD]; omega
        · cases hs
theorem rev_dyck {l : List UInt8} (h : DyckP l) : DyckP (revD l) := by
  refine ⟨by simp [revD]; exact h.1, ?_⟩
  exact rev_fold l 0 0 h.2
/-- counts of a rising row -/
theorem cnt_step {n : Nat} {f : Nat → Int} (h : ∀ i j, i < j → j < n → f i < f j) (m : Int) :
    cnt n (fun i => decide (f i ≤ m + 1)) = cnt n (fun i => decide (f i ≤ m)) + (if ∃ i, i < n ∧ f i = m + 1 then 1 else 0) := by
  induction n with
  | zero => simp [cnt, sumTo]
  | succ n ih =>
    rw [cnt_succ, cnt_succ, ih (fun i j hij hj => h i j hij (by omega))]
    by_cases he : f n = m + 1
    · have h1 : ¬ ∃ i, i < n ∧ f i = m + 1 := fun ⟨i, hi, e⟩ => by have := h i n hi (by omega); omega
      have h2 : ∃ i, i < n + 1 ∧ f i = m + 1 := ⟨n, by omega, he⟩
      rw [if_neg h1, if_pos h2, decide_eq_true (show f n ≤ m + 1 by omega), decide_eq_false (show ¬ f n ≤ m by omega)]; rfl
    · have h3 : (decide (f n ≤ m + 1)) = decide (f n ≤ m) := by
        by_cases h4 : f n ≤ m
        · rw [decide_eq_true h4, decide_eq_true (by omega)]
        · rw [decide_eq_false h4, decide_eq_false (by omega)]
      have h5 : (∃ i, i < n + 1 ∧ f i = m + 1) ↔ ∃ i, i < n ∧ f i = m + 1 := ⟨fun ⟨i, hi, e⟩ => by
        rcases Nat.lt_or_ge i n with q | q
        · exact ⟨i, q, e⟩
        · rw [show i = n by omega] at e; exact absurd e he, fun ⟨i, hi, e⟩ => ⟨i, by omega, e⟩⟩
      rw [h3]
      by_cases h6 : ∃ i, i < n ∧ f i = m + 1
      · rw [if_pos h6, if_pos (h5.2 h6)]; omega
      · rw [if_neg h6, if_neg (fun x => h6 (h5.1 x))]; omega
theorem cnt_mono {n : Nat} {f g : Nat → Bool} (h : ∀ i, i < n → f i = true → g i = true) : cnt n f ≤ cnt n g := by
  induction n with
  | zero => exact Nat.le_refl _
  | succ n ih =>
    rw [cnt_succ, cnt_succ]
    have h1 := ih (fun i hi => h i (by omega))
    have h2 : (f n).toNat ≤ (g n).toNat := by
      rcases hf : f n with _ | _
      · simp
      · rw [h n (by omega) hf]; exact Nat.le_refl _
    omega
theorem cnt_all {n : Nat} {f : Nat → Bool} (h : ∀ i, i < n → f i = true) : cnt n f = n := by
  induction n with
  | zero => rfl
  | succ n ih => rw [cnt_succ, ih (fun i hi => h i (by omega)), h n (by omega)]; rfl
theorem pot_scan {a b : List Int} (h : RowsP a b) : ∀ m : Nat, m ≤ 2 * a.length → scan (potL a m) = some (cnt a.length (fun i => decide (a.getD i 0 ≤ (m : Int))) - cnt a.length (fun i => decide (b.getD i 0 ≤ (m : Int)))) := by
  intro m
  induction m with
  | zero =>
    intro _
    have h1 : cnt a.length (fun i => decide (a.getD i 0 ≤ ((0 : Nat) : Int))) = 0 := cnt_none fun i hi => decide_eq_false (by have := h.bounds hi; omega)
    rw [h1]; simp [potL, scan]
  | succ m ih =>
    intro hm
    have hA := cnt_step (n := a.length) (f := fun i => a.getD i 0) (fun i j hij hj => (h.asc hij hj).1) (m : Int)
    have hB := cnt_step (n := a.length) (f := fun i => b.getD i 0) (fun i j hij hj => (h.asc hij hj).2) (m : Int)
    have hle : cnt a.length (fun i => decide (b.getD i 0 ≤ ((m + 1 : Nat) : Int))) ≤ cnt a.length (fun i => decide (a.getD i 0 ≤ ((m + 1 : Nat) : Int))) := cnt_mono fun i hi hb => by
      have := h.2.2.2.2.1 i hi
      have hb := of_decide_eq_true hb
      exact decide_eq_true (by omega)
    have hle0 : cnt a.length (fun i => decide (b.getD i 0 ≤ (m : Int))) ≤ cnt a.length (fun i => decide (a.getD i 0 ≤ (m : Int))) := cnt_mono fun i hi hb => by
      have := h.2.2.2.2.1 i hi
      have hb := of_decide_eq_true hb
      exact decide_eq_true (by omega)
    have hc : ((m + 1 : Nat) : Int) = (m : Int) + 1 := by omega
    rw [hc] at hle ⊢
    rw [potL_succ, scan_append, ih (by omega)]
    simp only [List.foldl_cons, List.foldl_nil]
    rcases h.cover (p := m) (by omega) with hx | hx
    · have hy : ¬ ∃ i, i < a.length ∧ b.getD i 0 = (m : Int) + 1 := fun ⟨j, hj, ej⟩ => by
        obtain ⟨i, hi, ei⟩ := hx
        exact h.2.2.2.2.2 i hi j hj (by rw [ei, ej])
      have hmem : (m : Int) + 1 ∈ a := by
        obtain ⟨i, hi, ei⟩ := hx
        rw [← ei]; exact getD_mem hi
      rw [if_pos hx] at hA
      rw [if_neg hy] at hB
      rw [if_pos hmem]
      show some _ = some _
      congr 1
      omega
    · have hy : ¬ ∃ i, i < a.length ∧ a.getD i 0 = (m : Int) + 1 := fun ⟨j, hj, ej⟩ => by
        obtain ⟨i, hi, ei⟩ := hx
        exact h.2.2.2.2.2 j hj i hi (by rw [ei, ej])
      have hmem : ¬ (m : Int) + 1 ∈ a := fun hm => by
        obtain ⟨j, hj, ej⟩ := mem_getD hm
        exact hy ⟨j, hj, ej⟩
      rw [if_neg hy] at hA
      rw [if_pos hx] at hB
      rw [if_neg hmem]
      show (if _ = 0 then none else some _) = some _
      rw [if_neg (by omega)]
      congr 1
      omega
theorem pot_dyck {a b : List Int} (h : RowsP a b) : DyckP (potL a (2 * a.length)) := by
  refine ⟨by rw [potL_len]; have := h.2.1; omega, ?_⟩
  rw [pot_scan h _ (Nat.le_refl _)]
  have h1 : cnt a.length (fun i => decide (a.getD i 0 ≤ ((2 * a.length : Nat) : Int))) = a.length := cnt_all fun i hi => decide_eq_true (by have := h.bounds hi; omega)
  have h2 : cnt a.length (fun i => decide (b.getD i 0 ≤ ((2 * a.length : Nat) : Int))) = a.length := cnt_all fun i hi => decide_eq_true (by have := h.bounds hi; omega)
  rw [h1, h2]; simp
def evaR (t : List (List Int)) : List (List Int) × Bool := if TabP t then tabR (revD (potL (rw_ t 0) (2 * (rw_ t 0).length))) else ([], false)
theorem evaR_yes {t : List (List Int)} (h : TabP t) : (evaR t).2 = true := by
  unfold evaR tabR
  rw [if_pos h, if_pos (rev_dyck (pot_dyck h.2))]
end Go.Proofs.Ytnkkgfeegaiakaa
