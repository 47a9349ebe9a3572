/- What the draws of arguments leave: a text, a list of numbers, rows; from the cursor's world to the caller's. No condition. -/
import Derived.Test.YtnkkgfeegaiakaaGround
import Derived.Test.YtnkkgfeegaiakaaPlain29
namespace Go.Proofs.Ytnkkgfeegaiakaa
open Go.RowKit
def RetDI (w : World) (cb : Nat) (bs : List UInt8) (P : List Int → Prop) (e : Ending) (w' : World) : Prop := ∃ r xs, e = .returned r ∧ OwI w' w.heap.size r xs ∧ P xs ∧ CurAt w' cb bs ∧ w.grownBy w' (some cb)
def RetXI (w : World) (P : List Int → Prop) (e : Ending) (w' : World) : Prop := ∃ r xs, e = .returned r ∧ RdI w' r xs ∧ P xs ∧ Below w.heap.size w w'
def RetXT (w : World) (Q : ByteArray → Prop) (e : Ending) (w' : World) : Prop := ∃ s, e = .returned (.string s) ∧ Q s ∧ Below w.heap.size w w'
def RetDSS (w : World) (cb : Nat) (bs : List UInt8) (P : List (List Int) → Prop) (e : Ending) (w' : World) : Prop := ∃ r xs, e = .returned r ∧ RdSS w' r xs ∧ P xs ∧ CurAt w' cb bs ∧ w.grownBy w' (some cb)
def RetXSS (w : World) (P : List (List Int) → Prop) (e : Ending) (w' : World) : Prop := ∃ r xs, e = .returned r ∧ RdSS w' r xs ∧ P xs ∧ Below w.heap.size w w'
theorem below_cur {w w1 w2 : World} (b : Below w.heap.size w w1) (g : w1.grownBy w2 (some w.heap.size)) : Below w.heap.size w w2 :=
  b.trans ⟨g.os, g.tape, g.output, g.size, fun k hk => g.block k (Nat.lt_of_lt_of_le hk b.size) (by intro e; injection e with e; omega)⟩
theorem CurAt.below {w w' : World} {cb : Nat} {bs : List UInt8} (h : CurAt w cb bs) (hb : Below w.heap.size w w') : CurAt w' cb bs := h.grown (row := none) (grown_of_below hb) (fun r e => by cases e)
theorem grown_below {w w' : World} {cb : Nat} (hb : Below w.heap.size w w') : w.grownBy w' (some cb) := ⟨hb.os, hb.tape, hb.output, hb.size, fun k hk _ => hb.block k hk⟩
theorem OwI.cur {w w' : World} {base cb : Nat} {v : Value} {xs : List Int} (h : OwI w base v xs) (g : w.grownBy w' (some cb)) (hcb : cb < base) : OwI w' base v xs :=
  h.grown g (.inr fun e => by have := (h.lt cb e).1; omega)
/-- after a write to a row of blocks from base on -/
theorem grown_new {w a b : World} {cb base : Nat} {v : Value} (g : w.grownBy a (some cb)) (k : a.grownBy b v.ownBlock) (hv : ∀ r, v.ownBlock = some r → base ≤ r) (hb : w.heap.size ≤ base) : w.grownBy b (some cb) :=
  ⟨k.os.trans g.os, k.tape.trans g.tape, k.output.trans g.output, Nat.le_trans g.size k.size, fun r hr hne => (k.block r (Nat.lt_of_lt_of_le hr g.size) (fun e => by have := hv r e.symm; omega)).trans (g.block r hr hne)⟩
theorem CurAt.other {a b : World} {cb base : Nat} {bs : List UInt8} {v : Value} (h : CurAt a cb bs) (k : a.grownBy b v.ownBlock) (hv : ∀ r, v.ownBlock = some r → base ≤ r) (hb : cb < base) : CurAt b cb bs :=
  h.grown k (fun r e => by have := hv r e; omega)
theorem OwI.shapeP {w : World} {base : Nat} {v : Value} {xs : List Int} (h : OwI w base v xs) (hp : 0 < xs.length) : ∃ g cap, v = .slice (some ⟨g, 0, none⟩) xs.length cap ∧ base ≤ g := by
  rcases h.shape with ⟨_, e⟩ | ⟨g, cap, e, h1, _⟩
  · subst e; simp at hp
  · exact ⟨g, cap, e, h1⟩
theorem L_short {s : ByteArray} (h : TxtP s) (hd : DyckP (L s)) : Short (L s) := by
  rcases h with h | h
  · exact .inl (by rw [L_len]; exact h)
  · have hl : (L s).length ≤ 16 := hd.1
    simp only [six, List.mem_cons, List.not_mem_nil, or_false] at h
    rcases h with rfl | rfl | rfl | rfl | rfl | rfl
    · exact .inl (by decide)
    · exact .inl (by decide)
    · exact .inl (by decide)
    · exact .inl (by decide)
    · exact absurd hl (by decide)
    · exact .inr (by decide)
end Go.Proofs.Ytnkkgfeegaiakaa
