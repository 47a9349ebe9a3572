/- The law FnExactFormatPartition returns true at every slice of numbers. No condition. -/
import Derived.Test.YtgcohjahkifblaaFrame
import Derived.Test.YtgcohjahkifblaaPartFormat
namespace Go.Proofs.Ytgcohjahkifblaa.formatPartition
open Go.ChangeShapes Go.WideShapes Go.ChangeAt Go.RowKit
open Go.ChangeMaps (open_string shut_string)
theorem walk (w : World) (v : Value) (xs : List Int) (h : ArgI w v xs) :
    Calls Try.prog 14 #[v] w fun e w' => e = .returned (.bool true) ∧ Below w.heap.size w w' := by
  obtain ⟨A, c, rfl, hc, hm, hrd, _⟩ := h
  by_cases hbig : xs.length ≤ 1048576
  · have H0 := hrd (by omega)
    clear hrd
    go_enter Try.func14, Try.ntmps14
    go_wp2_with fail
    refine (toIntS_any _ _ _ H0).mono ?_; rintro e w1 ⟨t1, rfl, o1, b1⟩
    go_wp2_with fail
    refine ( (specFormatPartition_any _ _ _ o1.rd)).mono ?_; rintro e w2 ⟨rfl, b2⟩
    have B2 := below_then b1 b2
    go_wp2_with fail
    refine (toIntS_any _ _ _ (H0.below B2)).mono ?_; rintro e w3 ⟨x0, rfl, o3, b3⟩
    have B3 := below_then B2 b3
    go_wp2_with fail
    refine ( (implFormatPartition_any _ _ _ o3.rd)).mono ?_; rintro e w4 ⟨rfl, b4⟩
    have B4 := below_then B3 b4
    have o4 := o3.below b4
    go_wp2_with fail
    refine (toIntS_any _ _ _ (H0.below B4)).mono ?_; rintro e w5 ⟨t5, rfl, o5, b5⟩
    have B5 := below_then B4 b5
    go_wp2_with fail
    refine (eqIntS_any _ _ _ _ _ (o4.below b5).rd o5.rd).mono ?_; rintro e w6 ⟨rfl, q6, rfl⟩
    have B6 := below_then B5 (below_draws _ q6)
    go_wp2_with fail
    go_ret
    exact ⟨rfl, B6⟩
  · clear hrd
    go_enter Try.func14, Try.ntmps14
    go_wp2_with fail
    go_ret
    exact ⟨rfl, Below.refl _ _⟩
set_option maxRecDepth 100000 in
theorem lifted (os : Os) (started : os.Started) (H : Type) (enc : TypeId × Value → H) :
    ReturnsInHanded {} Try.checked os 14 .any (Rows.fnExactFormatPartitionSpec.pre6 enc Try.prog Try.f14 Rows.fnExactFormatPartitionRow.domain false) (Rows.fnExactFormatPartitionSpec.post enc Try.prog Try.f14 false true false false) := by
  refine returnsInHanded_of_change (C := Try.checked) own started (by kernel_rfl) Try.func14
    (ChangeSpec.witness6 (enc := enc) (C := Try.checked) false ⟨#[], #[.slice none 0 0], []⟩ 8 (by kernel_rfl) (by kernel_rfl) (by kernel_rfl) (by kernel_rfl)) ?_
  intro W base args ds gs before hval0 hW hcnd _
  have hval : ∀ (j : Nat) t v, Try.f14.params[j]? = some t → args[j]? = some v → Value.okWide Try.prog W .any base t v := hval0
  have hW' := hW
  obtain ⟨p, q, hA0, hV, rfl, hfz, hnd⟩ := hW
  have hA : DataW.TrodAll enc Try.prog W 0 (fun _ => true) true Try.f14.params.toList args.toList ds p := hA0
  rw [Try.params14] at hA hval
  obtain ⟨v0, vs0, d0, ds0, p0, q0, hargs, rfl, rfl, h0, r0⟩ := trodAll_cons hA
  obtain ⟨rfl, rfl, rfl⟩ := trodAll_nil r0
  obtain rfl : args = #[v0] := by cases args; simp_all
  obtain ⟨rfl, rfl⟩ := trodVars_none hV
  obtain ⟨a0, len0, cap0, rfl⟩ := okWide_slice Try.underlying22 (hval 0 22 v0 rfl rfl)
  have k0 := h0
  have lt0 : ∀ x ∈ p0, x.block < W.heap.size := by obtain ⟨m, hm⟩ := k0; exact DataW.trod_lt m _ _ _ hm
  obtain ⟨z0, w0⟩ : ∃ zs, ArgI W (.slice a0 len0 cap0) zs := by
    obtain ⟨fuel, hf⟩ := h0
    rcases open_ints Try.underlying22 Try.underlying3 (by kernel_rfl) hf with ⟨hcs, _⟩ | ⟨x, l, c, zs, hcs, _, hl, hm, hz, _, hcell, hwz⟩
    · simp [Value.cells] at hcs
      obtain ⟨rfl, rfl, rfl⟩ := hcs
      exact ⟨[], ArgI.nil_ _⟩
    · simp [Value.cells] at hcs
      obtain ⟨rfl, rfl, rfl⟩ := hcs
      exact ⟨zs.take len0, ArgI.of_row hl hm (by simpa using hz) hcell hwz⟩
  clear hA0 hval0
  refine (walk W (.slice a0 len0 cap0) z0 w0).mono fun e W' ⟨he, bel⟩ => ?_
  subst he
  exact ⟨_, rfl, _, _, _, [], _, [], hW', trodAll_mk1 (shut_bool Try.underlying4 _), (trodAll_cons_mk (Below.trod laidOut (by kernel_rfl) (of_decide_eq_true (by kernel_rfl)) k0 bel lt0) trodAll_mk0), rfl, bel.frame _, fun h => by cases h⟩

theorem over : Rows.fnExactFormatPartitionRow.holds Try.pinned (OpenSpec.ofChange Rows.fnExactFormatPartitionSpec) :=
  OpenClaim.holds_of_wide 14 Try.f14 rfl rfl rfl rfl rfl rfl rfl ⟨rfl, rfl, rfl, rfl, rfl⟩ rfl rfl rfl rfl rfl (by kernel_rfl) Try.func14 (by kernel_rfl)
    (of_decide_eq_true (by kernel_rfl)) (by unfold Func.isWrapper; first | (rw [if_pos (by decide +kernel)]; kernel_rfl) | (rw [if_neg (by decide +kernel)]; exact ⟨rfl, rfl⟩))
    (fun os started H enc _ => lifted os started H enc)

/-- the statement -/
theorem proved : Rows.FnExactFormatPartitionSaid := over
#print axioms proved
end Go.Proofs.Ytgcohjahkifblaa.formatPartition
