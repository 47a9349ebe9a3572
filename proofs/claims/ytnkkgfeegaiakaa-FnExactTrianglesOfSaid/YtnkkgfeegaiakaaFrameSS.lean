/- How a slice of slices of numbers that came in reads. No condition. -/
import Derived.Test.YtnkkgfeegaiakaaFrame
import Derived.Test.YtnkkgfeegaiakaaSS
import Derived.Deep.Matrix
namespace Go.Proofs.Ytnkkgfeegaiakaa
open Go.ChangeShapes Go.WideShapes Go.ChangeAt Go.RowKit
theorem ArgSS.nil_ (w : World) : ArgSS w (.slice none 0 0) [] := ⟨none, 0, rfl, Nat.le_refl _, by simp, fun h => absurd h (by simp)⟩
theorem addr_plain {w : World} {x : Addr} {u : Value} (h : w.cell? (x.add 0) = some u) : ∃ b o, x = ⟨b, o, none⟩ ∧ b < w.heap.size ∧ ∀ k, x.add k = ⟨b, o + k, none⟩ := by
  have hs : x.spot = none ∨ ∃ s, x.spot = some s := by cases x.spot <;> simp
  obtain ⟨b, o, sp⟩ := x
  have h00 := h
  cases sp with
  | some s =>
    simp only [Addr.add, if_true, World.cell?] at h00
    split at h00 <;> simp at h00
  | none =>
    have hadd : ∀ k, (⟨b, o, none⟩ : Addr).add k = ⟨b, o + k, none⟩ := fun k => by
      unfold Addr.add
      by_cases hk : k = 0
      · subst hk; rfl
      · rw [if_neg hk]
    refine ⟨b, o, rfl, ?_, hadd⟩
    rcases Nat.lt_or_ge b w.heap.size with hlt | hge
    · exact hlt
    · rw [hadd] at h00
      simp [World.cell?, Array.getElem?_eq_none hge] at h00
theorem ArgSS.of_rows {w : World} {a : Addr} {len cap : Nat} {A : Nat → Option Addr} {L C : Nat → Nat} {Z : Nat → List Int} (hl : len ≤ cap) (hm : cap ≤ maxLen)
    (h : ∀ r, r < cap → w.cell? (a.add r) = some (.slice (A r) (L r) (C r)) ∧ L r ≤ C r ∧ C r ≤ maxLen ∧ (Z r).length = C r ∧ (∀ n ∈ Z r, (Lit.int .i64 n).wf = true) ∧ (A r = none → C r = 0) ∧
        ∀ a', A r = some a' → 0 ≤ a'.block ∧ ∀ c, c < C r → w.cell? (a'.add c) = some (.int .i64 ((Z r).getD c 0))) :
    ArgSS w (.slice (some a) len cap) ((List.range len).map fun r => (Z r).take (L r)) := by
  have hmax : maxLen = 9223372036854775807 := rfl
  have e : ((List.range len).map fun r => (Z r).take (L r)).length = len := by simp
  refine ⟨some a, cap, by rw [e], by omega, by omega, fun h0 => ?_⟩
  rw [e] at h0
  obtain ⟨b, o, rfl, hb, hadd⟩ := addr_plain (h 0 (by omega)).1
  refine ⟨b, o, rfl, hb, fun k hk => ?_⟩
  rw [e] at hk
  obtain ⟨hc, h1, h2, h3, h4, h5, h6⟩ := h k (by omega)
  have ek : ((List.range len).map fun r => (Z r).take (L r))[k]'(by rw [e]; exact hk) = (Z k).take (L k) := by simp
  have el : ((Z k).take (L k)).length = L k := by simp; omega
  have hARG : ArgI w (.slice (A k) (L k) (C k)) ((Z k).take (L k)) := by
    cases hA : A k with
    | none =>
      have hc0 := h5 hA
      have hz : Z k = [] := List.length_eq_zero_iff.1 (by omega)
      rw [hz, show L k = 0 from by omega, hc0]
      exact ArgI.nil_ _
    | some x => exact ArgI.of_row h1 h2 h3 (fun i hi => (h6 x hA).2 i (by omega)) h4
  obtain ⟨A', c', e1, e2, e3, e4, e5⟩ := hARG
  refine ⟨.slice (A k) (L k) (C k), A', c', by rw [← hadd]; exact hc, ?_, ?_, ?_, ?_⟩
  · rw [ek]; exact e1
  · rw [ek]; exact e3
  · rw [ek]; exact e4
  · rw [ek]; exact e5
end Go.Proofs.Ytnkkgfeegaiakaa
