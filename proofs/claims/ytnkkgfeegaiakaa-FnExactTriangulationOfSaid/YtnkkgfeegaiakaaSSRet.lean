/- Two rows side by side as a slice of slices that the call owns; what a call leaves that returns one and a bool. No condition. -/
import Derived.Test.YtnkkgfeegaiakaaSSApp
namespace Go.Proofs.Ytnkkgfeegaiakaa
open Go.RowKit
def RetSSB (w : World) (R : List (List Int) × Bool) (e : Ending) (w' : World) : Prop := ∃ r, e = .returned (.tuple #[r, .bool R.2]) ∧ OwSS w' w.heap.size w'.heap.size r R.1 ∧ Below w.heap.size w w'
theorem RetSSB.mk {w w' : World} {R : List (List Int) × Bool} {l : List (List Int)} {b : Bool} {r : Value} (h : R = (l, b)) (hr : OwSS w' w.heap.size w'.heap.size r l) (hb : Below w.heap.size w w') : RetSSB w R (.returned (.tuple #[r, .bool b])) w' := by
  subst h; exact ⟨r, rfl, hr, hb⟩
theorem OwSS.mono {w : World} {base base' top : Nat} {v : Value} {xss : List (List Int)} (h : OwSS w base top v xss) (hb : base' ≤ base) : OwSS w base' top v xss := by
  obtain ⟨V, h1, h2, h3, h4, h5⟩ := h
  exact ⟨V, h1.mono hb, fun i hi => (h2 i hi).mono hb, h3, h4, h5⟩
theorem OwSS.empty2 (w : World) (base : Nat) (hb : base ≤ w.heap.size) : OwSS (w.alloc (.cells #[] 38)) base (w.alloc (.cells #[] 38)).heap.size (.slice (some ⟨w.heap.size, 0, none⟩) 0 0) [] :=
  (OwSS.empty_ w base hb).size
theorem OwSS.lit2 {w : World} {base : Nat} {u0 u1 : Value} {a b : List Int} (h0 : OwI w base u0 a) (h1 : OwI w base u1 b) (ap : Apart u0 u1) (hb : base ≤ w.heap.size) :
    OwSS (w.alloc (.cells #[u0, u1] 38)) base (w.alloc (.cells #[u0, u1] 38)).heap.size (.slice (some ⟨w.heap.size, 0, none⟩) 2 2) [a, b] := by
  have hB : Below w.heap.size w (w.alloc (.cells #[u0, u1] 38)) := (Below.refl _ _).alloc (Nat.le_refl _) _
  have o := OwR.lit (e := 38) (f := (id : Value → Value)) w [u0, u1] base hb (by simp)
  have r0 := h0.below hB
  have r1 := h1.below hB
  refine OwSS.size (top := w.heap.size + 1) ⟨fun i => if i = 0 then u0 else u1, o, fun i hi => ?_, fun i j hij hj => ?_, fun g hg => ?_, fun i hi g hg => ?_⟩
  · have : i = 0 ∨ i = 1 := by simp at hi; omega
    rcases this with rfl | rfl
    · exact r0
    · exact r1
  · have h1 : i = 0 := by simp at hj; omega
    have h2 : j = 1 := by simp at hj; omega
    subst h1; subst h2
    exact ap
  · injection hg with hg; subst hg; show w.heap.size < w.heap.size + 1; omega
  · have : i = 0 ∨ i = 1 := by simp at hi; omega
    rcases this with rfl | rfl
    · have := (h0.lt g hg).2; omega
    · have := (h1.lt g hg).2; omega
end Go.Proofs.Ytnkkgfeegaiakaa
