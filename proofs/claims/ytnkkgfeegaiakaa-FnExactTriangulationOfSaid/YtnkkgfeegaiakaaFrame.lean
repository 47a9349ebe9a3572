/- How an argument that came in reads: a number, a slice of numbers. No condition. -/
import Derived.Test.YtnkkgfeegaiakaaRows
import Derived.Test.YtnkkgfeegaiakaaHelp
import Derived.ProofKit
import Derived.OpenShut
import Derived.ShutString
import Derived.ChangeOld
import Derived.Below
namespace Go.Proofs.Ytnkkgfeegaiakaa
open Go.ChangeShapes Go.WideShapes Go.ChangeAt Go.RowKit
theorem own : ownKnob Try.prog.godebug = none := by kernel_rfl
theorem laidOut : laidOutB Try.prog = true := by kernel_rfl
theorem wf_bounds {x : Int} (h : (Lit.int .i64 x).wf = true) : I64 x := by
  simp [Lit.wf, IntKind.min, IntKind.max, IntKind.signed, IntKind.bits] at h
  exact ⟨by omega, by omega⟩
/-- a slice of numbers that came in -/
def ArgI (w : World) (v : Value) (xs : List Int) : Prop :=
  ∃ A c, v = .slice A xs.length c ∧ xs.length ≤ c ∧ xs.length ≤ 9223372036854775807 ∧ (xs.length ≤ 1099511627776 → RdI w v xs) ∧ ∀ x ∈ xs, I64 x
theorem ArgI.nil_ (w : World) : ArgI w (.slice none 0 0) [] := ⟨none, 0, rfl, Nat.le_refl _, by simp, fun _ => RdI.nil_ w, by simp⟩
theorem ArgI.of_row {w : World} {x : Addr} {len cap : Nat} {zs : List Int} (hl : len ≤ cap) (hm : cap ≤ maxLen) (hz : zs.length = cap)
    (hc : ∀ i, i < zs.length → w.cell? (x.add i) = some (.int .i64 (zs.getD i 0))) (hw : ∀ n ∈ zs, (Lit.int .i64 n).wf = true) : ArgI w (.slice (some x) len cap) (zs.take len) := by
  unfold maxLen at hm
  have e : (zs.take len).length = len := by simp; omega
  have hv : Value.slice (some x) len cap = .slice (some x) (zs.take len).length cap := by rw [e]
  refine ⟨some x, cap, hv, by omega, by omega, fun hb => ⟨some x, cap, hv, by omega, hb, fun h0 => ?_⟩, fun y hy => wf_bounds (hw y (List.mem_of_mem_take hy))⟩
  have h00 := hc 0 (by omega)
  have hs : x.spot = none := by
    cases hsp : x.spot with
    | none => rfl
    | some s =>
      simp only [Addr.add, if_true, World.cell?, hsp] at h00
      split at h00 <;> simp at h00
  obtain ⟨b, o, sp⟩ := x
  simp only at hs
  subst hs
  have hadd : ∀ k, (⟨b, o, none⟩ : Addr).add k = ⟨b, o + k, none⟩ := fun k => by
    unfold Addr.add
    by_cases hk : k = 0
    · subst hk; rfl
    · rw [if_neg hk]
  refine ⟨b, o, rfl, ?_, fun k hk => ?_⟩
  · rcases Nat.lt_or_ge b w.heap.size with hlt | hge
    · exact hlt
    · rw [hadd] at h00
      simp [World.cell?, Array.getElem?_eq_none hge] at h00
  · have := hc k (by omega)
    rw [hadd] at this
    rw [this]
    have hkz : k < zs.length := by omega
    simp [List.getD, hkz]
end Go.Proofs.Ytnkkgfeegaiakaa
