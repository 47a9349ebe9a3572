/- Contracts of the laws' helpers on slices of texts, for nine texts and marks from 1 to 9. No condition. -/
import Derived.Test.YtngfkajfbgfncaaConv
import Derived.Deep.RegionHeld3
namespace Go.Proofs.Ytngfkajfbgfncaa
open Go.RowKit
/-- a slice value that owns a row of texts in a block from base on; that reads as texts -/
def OwS (w : World) (base : Nat) (v : Value) (ss : List ByteArray) : Prop := w.ownsRow base 9 1 v ss.length (ss.map Value.string) ∧ ss.length ≤ 1099511627776
def RdS (w : World) (v : Value) (ss : List ByteArray) : Prop :=
  ∃ A c, v = .slice A ss.length c ∧ ss.length ≤ c ∧ ss.length ≤ 1099511627776 ∧ (0 < ss.length → ∃ b o, A = some ⟨b, o, none⟩ ∧ b < w.heap.size ∧ ∀ k (_ : k < ss.length), w.cell? ⟨b, o + k, none⟩ = some (.string ss[k]))
theorem OwS.rd {w : World} {base : Nat} {v : Value} {ss : List ByteArray} (h : OwS w base v ss) : RdS w v ss := by
  obtain ⟨h, hl⟩ := h
  rcases h.2 with ⟨rfl, h0⟩ | ⟨g, cap, cur, rfl, hb, hh, hn, hm, hs, ht⟩
  · have hx : ss = [] := List.eq_nil_of_length_eq_zero h0
    subst hx
    exact ⟨none, 0, rfl, Nat.le_refl _, by simp, fun h => by simp at h⟩
  · refine ⟨_, cap, rfl, hn, hl, fun _ => ⟨g, 0, rfl, ?_, fun k hk => ?_⟩⟩
    · rcases Nat.lt_or_ge g w.heap.size with hlt | hge
      · exact hlt
      · rw [Array.getElem?_eq_none hge] at hh; cases hh
    · rw [Nat.zero_add, h.cellAt k (by simpa using hk)]
      simp [hk]
theorem OwS.below {w w' : World} {base : Nat} {v : Value} {ss : List ByteArray} (h : OwS w base v ss) (hb : Below w.heap.size w w') : OwS w' base v ss := by
  refine ⟨h.1.kept (grown_of_below hb) ?_, h.2⟩
  cases hv : v.ownBlock <;> simp
theorem OwS.grown {w w' : World} {base : Nat} {v : Value} {ss : List ByteArray} {row : Option Nat} (h : OwS w base v ss) (hg : w.grownBy w' row) (hne : v.ownBlock = none ∨ v.ownBlock ≠ row) : OwS w' base v ss := ⟨h.1.kept hg hne, h.2⟩
theorem OwS.lt {w : World} {base : Nat} {v : Value} {ss : List ByteArray} (h : OwS w base v ss) : ∀ k, v.ownBlock = some k → base ≤ k ∧ k < w.heap.size := h.1.lt
theorem OwS.shape {w : World} {base : Nat} {v : Value} {ss : List ByteArray} (h : OwS w base v ss) : (v = .slice none 0 0 ∧ ss = []) ∨ ∃ g cap, v = .slice (some ⟨g, 0, none⟩) ss.length cap ∧ base ≤ g ∧ g < w.heap.size := by
  rcases h.1.2 with ⟨e, h0⟩ | ⟨g, cap, cur, e, hb, hh, _⟩
  · exact .inl ⟨e, List.eq_nil_of_length_eq_zero h0⟩
  · refine .inr ⟨g, cap, e, hb, ?_⟩
    rcases Nat.lt_or_ge g w.heap.size with hlt | hge
    · exact hlt
    · rw [Array.getElem?_eq_none hge] at hh; cases hh
/-- the nine names -/
def names9 : List ByteArray := [⟨#[112, 101, 97, 107, 115]⟩, ⟨#[114, 101, 116, 117, 114, 110, 115]⟩, ⟨#[114, 105, 115, 101]⟩, ⟨#[97, 114, 101, 97]⟩, ⟨#[100, 101, 112, 116, 104]⟩, ⟨#[108, 101, 97, 118, 101, 115]⟩, ⟨#[98, 108, 111, 99, 107, 115]⟩, ⟨#[109, 97, 106, 111, 114]⟩, ⟨#[102, 97, 108, 108]⟩]
theorem OwS.lit (w : World) (ss : List ByteArray) (base : Nat) (hb : base ≤ w.heap.size) (hl : ss.length ≤ 1099511627776) : OwS (w.alloc (.cells (ss.map Value.string).toArray 9)) base (.slice (some ⟨w.heap.size, 0, none⟩) ss.length ss.length) ss := by
  refine ⟨?_, hl⟩
  have := World.ownsRow_lit (base := base) (e := 9) (size := 1) w (ss.map Value.string).toArray ss.length hb (by unfold maxLen; omega) (by simp)
  simpa using this
theorem implStatisticNames_any (w : World) :
    Calls Try.prog 246 #[] w fun e w' => ∃ r, e = .returned r ∧ OwS w' w.heap.size r names9 ∧ Below w.heap.size w w' := by
  go_enter Try.func246, Try.ntmps246
  go_wp2_with fail
  go_ret
  exact ⟨_, rfl, OwS.lit w names9 _ (Nat.le_refl _) (by simp [names9]), (Below.refl _ _).alloc (Nat.le_refl _) _⟩
end Go.Proofs.Ytngfkajfbgfncaa
