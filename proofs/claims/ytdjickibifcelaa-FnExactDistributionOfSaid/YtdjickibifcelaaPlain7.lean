/- Plain words on parking functions over a path: choices, runs, products. No condition. -/
import Derived.Test.YtdjickibifcelaaPlain3
namespace Go.Proofs.Ytdjickibifcelaa
/-- choices of k out of n -/
def ch : Nat → Nat → Nat
  | _, 0 => 1
  | 0, _ + 1 => 0
  | n + 1, k + 1 => ch n k + ch n (k + 1)
theorem ch_le : ∀ n < 7, ∀ k < 7, ch n k ≤ 20 := by decide
theorem ch_step : ∀ n < 7, ∀ i < n, ch n i * (n - i) / (i + 1) = ch n (i + 1) := by decide
theorem ch_step2 : ∀ m < 7, ∀ i < 7, m + i < 6 → ch (m + i) i * (m + (i + 1)) / (i + 1) = ch (m + (i + 1)) (i + 1) := by decide
theorem ch_mul_le : ∀ n < 7, ∀ i < 7, ∀ j < 7, ch n i * j ≤ 1000 := by decide
/-- letters u -/
def cu (l : List UInt8) : Nat := l.countP (fun c => c.toNat = 117)
theorem cu_append (a b : List UInt8) : cu (a ++ b) = cu a + cu b := by simp [cu, List.countP_append]
theorem cu_take_le (l : List UInt8) (k : Nat) : cu (l.take k) ≤ cu l := by
  have h := cu_append (l.take k) (l.drop k)
  rw [List.take_append_drop] at h
  omega
theorem fold_count : ∀ (l : List UInt8) (h0 h : Nat), l.foldl stepD (some h0) = some h → h + l.length = h0 + 2 * cu l := by
  intro l
  induction l with
  | nil => intro h0 h e; injection e with e; simp [cu]; omega
  | cons c l ih =>
    intro h0 h e
    simp only [List.foldl_cons] at e
    by_cases hu : c.toNat = 117
    · have e1 : stepD (some h0) c = some (h0 + 1) := by simp [stepD, hu]
      rw [e1] at e
      have := ih _ _ e
      have hc : cu (c :: l) = cu l + 1 := by simp [cu, List.countP_cons, hu]
      simp only [List.length_cons]
      omega
    · have hc : cu (c :: l) = cu l := by simp [cu, List.countP_cons, hu]
      by_cases hd : c.toNat = 100
      · by_cases h00 : h0 = 0
        · have e1 : stepD (some h0) c = none := by simp [stepD, hd, h00]
          rw [e1, scan_none] at e; cases e
        · have e1 : stepD (some h0) c = some (h0 - 1) := by simp [stepD, hd, h00]
          rw [e1] at e
          have := ih _ _ e
          simp only [List.length_cons]
          omega
      · have e1 : stepD (some h0) c = none := by simp [stepD, hu, hd]
        rw [e1, scan_none] at e; cases e
theorem dyck_half {l : List UInt8} (h : DyckP l) : 2 * cu l = l.length := by
  have := fold_count l 0 0 h.2
  omega
/-- the product, the cars left, the run -/
def pkF (s : Nat × Nat × Nat) (c : UInt8) : Nat × Nat × Nat := if c.toNat = 117 then (s.1, s.2.1, s.2.2 + 1) else (s.1 * ch s.2.1 s.2.2, s.2.1 - s.2.2, 0)
def pkS (l : List UInt8) (k : Nat) : Nat × Nat × Nat := (l.take k).foldl pkF (1, l.length / 2, 0)
theorem pkS_succ (l : List UInt8) (k : Nat) (h : k < l.length) : pkS l (k + 1) = pkF (pkS l k) l[k] := by
  unfold pkS
  rw [List.take_succ_eq_append_getElem h, List.foldl_append]; rfl
def pkV (l : List UInt8) : Int := if DyckP l ∧ l.length / 2 ≤ 6 then ((pkS l l.length).1 : Nat) else -1
/-- what holds ahead of each letter -/
def PkInv (l : List UInt8) (k x lf rn : Nat) : Prop := pkS l k = (x, lf, rn) ∧ cu (l.take k) + lf = l.length / 2 + rn ∧ x ≤ 20 ^ k
theorem PkInv.start (l : List UInt8) : PkInv l 0 1 (l.length / 2) 0 := ⟨rfl, by simp [cu], by simp⟩
theorem PkInv.run_le {l : List UInt8} {k x lf rn : Nat} (h : PkInv l k x lf rn) (hd : DyckP l) : rn ≤ lf ∧ lf ≤ l.length / 2 := by
  have h1 := cu_take_le l k
  have h2 := dyck_half hd
  have h3 := h.2.1
  refine ⟨by omega, ?_⟩
  have : rn ≤ cu (l.take k) := by
    have key : ∀ k, (pkS l k).2.2 ≤ cu (l.take k) := by
      intro k
      induction k with
      | zero => simp [pkS]
      | succ k ih =>
        rcases Nat.lt_or_ge k l.length with hk | hk
        · rw [pkS_succ l k hk, List.take_succ_eq_append_getElem hk, cu_append]
          unfold pkF
          split
          · rename_i hu
            simp [cu, hu] at ih ⊢; omega
          · simp
        · have e1 : l.take (k + 1) = l.take k := by rw [List.take_of_length_le (by omega), List.take_of_length_le hk]
          have e2 : pkS l (k + 1) = pkS l k := by unfold pkS; rw [e1]
          rw [e1, e2]; exact ih
    have := key k
    rw [h.1] at this
    exact this
  omega
theorem PkInv.up {l : List UInt8} {k x lf rn : Nat} (h : PkInv l k x lf rn) (hk : k < l.length) (hu : l[k].toNat = 117) : PkInv l (k + 1) x lf (rn + 1) := by
  refine ⟨by rw [pkS_succ l k hk, h.1]; simp [pkF, hu], ?_, Nat.le_trans h.2.2 (Nat.pow_le_pow_right (by omega) (by omega))⟩
  rw [List.take_succ_eq_append_getElem hk, cu_append]
  have := h.2.1
  have e : cu [l[k]] = 1 := by simp [cu, hu]
  omega
theorem PkInv.down {l : List UInt8} {k x lf rn : Nat} (h : PkInv l k x lf rn) (hk : k < l.length) (hd : ¬ l[k].toNat = 117) (hD : DyckP l) (h6 : l.length / 2 ≤ 6) : PkInv l (k + 1) (x * ch lf rn) (lf - rn) 0 := by
  have hr := h.run_le hD
  refine ⟨by rw [pkS_succ l k hk, h.1]; simp [pkF, hd], ?_, ?_⟩
  · rw [List.take_succ_eq_append_getElem hk, cu_append]
    have := h.2.1
    have e : cu [l[k]] = 0 := by simp [cu, hd]
    omega
  · rw [Nat.pow_succ]
    exact Nat.mul_le_mul h.2.2 (ch_le lf (by omega) rn (by omega))
theorem PkInv.bound {l : List UInt8} {k x lf rn : Nat} (h : PkInv l k x lf rn) (hk : k ≤ 12) : x ≤ 4096000000000000 :=
  Nat.le_trans h.2.2 (Nat.le_trans (Nat.pow_le_pow_right (by omega) hk) (by decide))
end Go.Proofs.Ytdjickibifcelaa
