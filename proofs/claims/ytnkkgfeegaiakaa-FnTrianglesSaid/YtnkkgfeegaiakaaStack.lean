/- A row as a stack: its last cell, and what is owned when it is taken off. No condition. -/
import Derived.Test.YtnkkgfeegaiakaaGround
namespace Go.Proofs.Ytnkkgfeegaiakaa
open Go.RowKit
theorem OwR.pop {α : Type} {e : TypeId} {f : α → Value} {w : World} {base : Nat} {v : Value} {ys : List α} {x : α} (h : OwR e f w base v (ys ++ [x])) :
    ∃ g cap, v = .slice (some ⟨g, 0, none⟩) (ys.length + 1) cap ∧ base ≤ g ∧ g < w.heap.size ∧ w.cell? ⟨g, ys.length, none⟩ = some (f x) ∧ ys.length + 1 ≤ cap ∧ OwR e f w base (.slice (some ⟨g, 0, none⟩) ys.length cap) ys := by
  have h0 := h
  rcases h.1.2 with ⟨rfl, hn⟩ | ⟨g, cap, cur, rfl, hb, hh, hn, hm, hs, ht⟩
  · simp at hn
  · have hlt : g < w.heap.size := by
      rcases Nat.lt_or_ge g w.heap.size with hlt | hge
      · exact hlt
      · rw [Array.getElem?_eq_none hge] at hh; cases hh
    have hle : (ys ++ [x]).length = ys.length + 1 := by simp
    have hc := h0.cellAt ys.length (by simp)
    rw [List.getElem_append_right (Nat.le_refl _)] at hc
    simp only [Nat.sub_self, List.getElem_cons_zero] at hc
    have hl := h0.2
    rw [hle] at hn ht hl
    refine ⟨g, cap, by rw [hle], hb, hlt, hc, hn, ⟨⟨by simp, .inr ⟨g, cap, cur, rfl, hb, hh, by omega, hm, hs, ?_⟩⟩, by omega⟩⟩
    have e1 : cur.toList.take (ys.length * 1) = (cur.toList.take ((ys.length + 1) * 1)).take (ys.length * 1) := by
      rw [List.take_take]
      congr 1
      omega
    rw [e1, ht]
    simp
end Go.Proofs.Ytnkkgfeegaiakaa
