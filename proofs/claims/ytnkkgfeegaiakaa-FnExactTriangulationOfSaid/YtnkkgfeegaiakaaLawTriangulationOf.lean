/- The law FnExactTriangulationOf returns true at all arguments. No condition. -/
import Derived.Test.YtnkkgfeegaiakaaTriGul
import Derived.Test.YtnkkgfeegaiakaaFrame
import Derived.Test.YtnkkgfeegaiakaaSSMark
namespace Go.Proofs.Ytnkkgfeegaiakaa.triangulationOf
open Go.ChangeShapes Go.WideShapes Go.ChangeAt Go.RowKit
open Go.ChangeMaps (open_string shut_string)
theorem walk (w : World) (a0 : ByteArray) (h0 : a0.size ≤ maxLen) :
    Calls Try.prog 3 #[.string a0] w fun e w' => e = .returned (.bool true) ∧ Below w.heap.size w w' := by
  unfold maxLen at h0
  by_cases hb0 : a0.size ≤ 1048576
  · have hof := tgR_off (L a0)
    go_enter Try.func3, Try.ntmps3
    go_wp2_with fail
    refine (specTriangulationOf_any a0 _ (by omega)).mono ?_; rintro e w1 ⟨w0, rfl, ow1, b1⟩
    have B1 := b1
    go_wp2_with fail
    refine (implTriangulationOf_any a0 _ (by omega)).mono ?_; rintro e w2 ⟨g0, rfl, og2, b2⟩
    have B2 := below_then B1 b2
    have ow2 := ow1.below b2
    go_wp2_with fail
    refine (eqIntSS_any _ _ _ _ _ og2.rd ow2.rd rfl).mono ?_; rintro e w3 ⟨rfl, q3, rfl⟩
    have b3 := below_draws w2 q3
    have B3 := below_then B2 b3
    have ow3 := ow2.below b3
    have og3 := og2.below b3
    go_wp2_with fail
    have hs1 := b1.size
    have hs2 := b2.size
    refine (markIntSS_any _ _ 1 _ _ _ og3 (by omega)).mono ?_; rintro e w4 ⟨rfl, om4, gk4⟩
    have B4 : Below w.heap.size w w4 := gk4.below B3 B1.size
    have ow4 := ow3.turned gk4 (.inl (by omega))
    go_wp2_with fail
    refine (heldIntSS_any _ _ 1 _ om4.rd (by omega)).mono ?_; rintro e w5 ⟨rfl, q5, rfl⟩
    have b5 := below_draws w4 q5
    have B5 := below_then B4 b5
    have ow5 := ow4.below b5
    have om5 := om4.below b5
    go_wp2_with fail
    refine (implTriangulationOf_any a0 _ (by omega)).mono ?_; rintro e w6 ⟨hh0, rfl, oh6, b6⟩
    have B6 := below_then B5 b6
    have ow6 := ow5.below b6
    have om6 := om5.below b6
    go_wp2_with fail
    refine (eqIntSS_any _ _ _ _ _ oh6.rd ow6.rd rfl).mono ?_; rintro e w7 ⟨rfl, q7, rfl⟩
    have b7 := below_draws w6 q7
    have B7 := below_then B6 b7
    have ow7 := ow6.below b7
    have om7 := om6.below b7
    have oh7 := oh6.below b7
    go_wp2_with fail
    refine (heldIntSS_any _ _ 1 _ om7.rd (by omega)).mono ?_; rintro e w8 ⟨rfl, q8, rfl⟩
    have b8 := below_draws (w6.drewN q7) q8
    have B8 := below_then B7 b8
    have ow8 := ow7.below b8
    have om8 := om7.below b8
    go_wp2_with fail
    go_ret
    first | exact ⟨rfl, B8⟩ | (rw [drewN_two] at B8; exact ⟨rfl, B8⟩)
  · go_enter Try.func3, Try.ntmps3
    go_wp2_with fail
    go_ret
    exact ⟨rfl, Below.refl _ _⟩
set_option maxRecDepth 100000 in
theorem lifted (os : Os) (started : os.Started) (H : Type) (enc : TypeId × Value → H) :
    ReturnsInHanded {} Try.checked os 3 .any (Rows.fnExactTriangulationOfSpec.pre6 enc Try.prog Try.f3 Rows.fnExactTriangulationOfRow.domain false) (Rows.fnExactTriangulationOfSpec.post enc Try.prog Try.f3 false true false false) := by
  refine returnsInHanded_of_change (C := Try.checked) own started (by kernel_rfl) Try.func3
    (ChangeSpec.witness6 (enc := enc) (C := Try.checked) false ⟨#[], #[.string ByteArray.empty], []⟩ 8 (by kernel_rfl) (by kernel_rfl) (by kernel_rfl) (by kernel_rfl)) ?_
  intro W base args ds gs before hval0 hW hcnd _
  have hval : ∀ (j : Nat) t v, Try.f3.params[j]? = some t → args[j]? = some v → Value.okWide Try.prog W .any base t v := hval0
  have hW' := hW
  obtain ⟨p, q, hA0, hV, rfl, hfz, hnd⟩ := hW
  have hA : DataW.TrodAll enc Try.prog W 0 (fun _ => true) true Try.f3.params.toList args.toList ds p := hA0
  rw [Try.params3] at hA hval
  obtain ⟨v0, vs0, d0, ds0, p0, q0, hargs, rfl, rfl, h0, r0⟩ := trodAll_cons hA
  obtain ⟨rfl, rfl, rfl⟩ := trodAll_nil r0
  obtain rfl : args = #[v0] := by cases args; simp_all
  obtain ⟨rfl, rfl⟩ := trodVars_none hV
  have k0 := h0
  have lt0 : ∀ x ∈ p0, x.block < W.heap.size := by obtain ⟨m, hm⟩ := k0; exact DataW.trod_lt m _ _ _ hm
  obtain ⟨a0, rfl, e0, _, w0⟩ := open_string Try.underlying9 (hval 0 9 v0 rfl rfl) h0
  clear hA0 hval0
  refine (walk W a0 w0).mono fun e W' ⟨he, bel⟩ => ?_
  subst he
  exact ⟨_, rfl, _, _, _, [], _, [], hW', trodAll_mk1 (shut_bool Try.underlying4 _), (trodAll_cons_mk (Below.trod laidOut (by kernel_rfl) (of_decide_eq_true (by kernel_rfl)) k0 bel lt0) trodAll_mk0), rfl, bel.frame _, fun h => by cases h⟩

theorem over : Rows.fnExactTriangulationOfRow.holds Try.pinned (OpenSpec.ofChange Rows.fnExactTriangulationOfSpec) :=
  OpenClaim.holds_of_wide 3 Try.f3 rfl rfl rfl rfl rfl rfl rfl ⟨rfl, rfl, rfl, rfl, rfl⟩ rfl rfl rfl rfl rfl (by kernel_rfl) Try.func3 (by kernel_rfl)
    (of_decide_eq_true (by kernel_rfl)) (by unfold Func.isWrapper; first | (rw [if_pos (by decide +kernel)]; kernel_rfl) | (rw [if_neg (by decide +kernel)]; exact ⟨rfl, rfl⟩))
    (fun os started H enc _ => lifted os started H enc)

/-- the statement -/
theorem proved : Rows.FnExactTriangulationOfSaid := over
#print axioms proved
end Go.Proofs.Ytnkkgfeegaiakaa.triangulationOf
