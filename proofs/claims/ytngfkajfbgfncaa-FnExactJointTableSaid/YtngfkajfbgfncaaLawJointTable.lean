/- The law FnExactJointTable returns true at all arguments. No condition. -/
import Derived.Test.YtngfkajfbgfncaaStatJoint
import Derived.Test.YtngfkajfbgfncaaFrame
import Derived.Test.YtngfkajfbgfncaaSSMark
namespace Go.Proofs.Ytngfkajfbgfncaa.jointTable
open Go.ChangeShapes Go.WideShapes Go.ChangeAt Go.RowKit
open Go.ChangeMaps (open_string shut_string)
theorem walk (w : World) (a0 : ByteArray) (h0 : a0.size ≤ maxLen) (a1 : ByteArray) (h1 : a1.size ≤ maxLen) (a2 : Int) (_h2 : I64 a2) :
    Calls Try.prog 10 #[.string a0, .string a1, .int .i64 a2] w fun e w' => e = .returned (.bool true) ∧ Below w.heap.size w w' := by
  unfold maxLen at h0
  unfold maxLen at h1
  by_cases hb0 : a0.size ≤ 1048576
  · by_cases hb1 : a1.size ≤ 1048576
    · have hof := jtV_off a0.toList a1.toList a2
      go_enter Try.func10, Try.ntmps10
      go_wp2_with fail
      refine (specJointTable_any a0 a1 a2 _ (by omega) (by omega) _h2).mono ?_; rintro e w1 ⟨w0, rfl, ow1, b1⟩
      have B1 := b1
      go_wp2_with fail
      refine (implJointTable_any a0 a1 a2 _ (by omega) (by omega) _h2).mono ?_; rintro e w2 ⟨g0, rfl, og2, b2⟩
      have B2 := below_then B1 b2
      have ow2 := ow1.below b2
      go_wp2_with fail
      refine (eqIntSS_any _ _ _ _ _ og2.rd ow2.rd rfl).mono ?_; rintro e w3 ⟨rfl, q3, rfl⟩
      have b3 := below_draws w2 q3
      have B3 := below_then B2 b3
      have ow3 := ow2.below b3
      have og3 := og2.below b3
      go_wp2_with fail
      have hs1 := b1.size
      have hs2 := b2.size
      refine (markIntSS_any _ _ 1 _ _ _ og3 (by omega)).mono ?_; rintro e w4 ⟨rfl, om4, gk4⟩
      have B4 : Below w.heap.size w w4 := gk4.below B3 B1.size
      have ow4 := ow3.turned gk4 (.inl (by omega))
      go_wp2_with fail
      refine (heldIntSS_any _ _ 1 _ om4.rd (by omega)).mono ?_; rintro e w5 ⟨rfl, q5, rfl⟩
      have b5 := below_draws w4 q5
      have B5 := below_then B4 b5
      have ow5 := ow4.below b5
      have om5 := om4.below b5
      go_wp2_with fail
      refine (implJointTable_any a0 a1 a2 _ (by omega) (by omega) _h2).mono ?_; rintro e w6 ⟨hh0, rfl, oh6, b6⟩
      have B6 := below_then B5 b6
      have ow6 := ow5.below b6
      have om6 := om5.below b6
      go_wp2_with fail
      refine (eqIntSS_any _ _ _ _ _ oh6.rd ow6.rd rfl).mono ?_; rintro e w7 ⟨rfl, q7, rfl⟩
      have b7 := below_draws w6 q7
      have B7 := below_then B6 b7
      have ow7 := ow6.below b7
      have om7 := om6.below b7
      have oh7 := oh6.below b7
      go_wp2_with fail
      refine (heldIntSS_any _ _ 1 _ om7.rd (by omega)).mono ?_; rintro e w8 ⟨rfl, q8, rfl⟩
      have b8 := below_draws (w6.drewN q7) q8
      have B8 := below_then B7 b8
      have ow8 := ow7.below b8
      have om8 := om7.below b8
      go_wp2_with fail
      go_ret
      first | exact ⟨rfl, B8⟩ | (rw [drewN_two] at B8; exact ⟨rfl, B8⟩)
    · go_enter Try.func10, Try.ntmps10
      go_wp2_with fail
      go_ret
      exact ⟨rfl, Below.refl _ _⟩
  · go_enter Try.func10, Try.ntmps10
    go_wp2_with fail
    go_ret
    exact ⟨rfl, Below.refl _ _⟩
set_option maxRecDepth 100000 in
theorem lifted (os : Os) (started : os.Started) (H : Type) (enc : TypeId × Value → H) :
    ReturnsInHanded {} Try.checked os 10 .any (Rows.fnExactJointTableSpec.pre6 enc Try.prog Try.f10 Rows.fnExactJointTableRow.domain false) (Rows.fnExactJointTableSpec.post enc Try.prog Try.f10 false true false false) := by
  refine returnsInHanded_of_change (C := Try.checked) own started (by kernel_rfl) Try.func10
    (ChangeSpec.witness6 (enc := enc) (C := Try.checked) false ⟨#[], #[.string ByteArray.empty, .string ByteArray.empty, .int .i64 0], []⟩ 8 (by kernel_rfl) (by kernel_rfl) (by kernel_rfl) (by kernel_rfl)) ?_
  intro W base args ds gs before hval0 hW hcnd _
  have hval : ∀ (j : Nat) t v, Try.f10.params[j]? = some t → args[j]? = some v → Value.okWide Try.prog W .any base t v := hval0
  have hW' := hW
  obtain ⟨p, q, hA0, hV, rfl, hfz, hnd⟩ := hW
  have hA : DataW.TrodAll enc Try.prog W 0 (fun _ => true) true Try.f10.params.toList args.toList ds p := hA0
  rw [Try.params10] at hA hval
  obtain ⟨v0, vs0, d0, ds0, p0, q0, hargs, rfl, rfl, h0, r0⟩ := trodAll_cons hA
  obtain ⟨v1, vs1, d1, ds1, p1, q1, rfl, rfl, rfl, h1, r1⟩ := trodAll_cons r0
  obtain ⟨v2, vs2, d2, ds2, p2, q2, rfl, rfl, rfl, h2, r2⟩ := trodAll_cons r1
  obtain ⟨rfl, rfl, rfl⟩ := trodAll_nil r2
  obtain rfl : args = #[v0, v1, v2] := by cases args; simp_all
  obtain ⟨rfl, rfl⟩ := trodVars_none hV
  have k0 := h0
  have lt0 : ∀ x ∈ p0, x.block < W.heap.size := by obtain ⟨m, hm⟩ := k0; exact DataW.trod_lt m _ _ _ hm
  obtain ⟨a0, rfl, e0, _, w0⟩ := open_string Try.underlying9 (hval 0 9 v0 rfl rfl) h0
  have k1 := h1
  have lt1 : ∀ x ∈ p1, x.block < W.heap.size := by obtain ⟨m, hm⟩ := k1; exact DataW.trod_lt m _ _ _ hm
  obtain ⟨a1, rfl, e1, _, w1⟩ := open_string Try.underlying9 (hval 1 9 v1 rfl rfl) h1
  have k2 := h2
  have lt2 : ∀ x ∈ p2, x.block < W.heap.size := by obtain ⟨m, hm⟩ := k2; exact DataW.trod_lt m _ _ _ hm
  obtain ⟨a2, rfl, e2, _, w2⟩ := open_int Try.underlying3 (hval 2 3 v2 rfl rfl) h2
  clear hA0 hval0
  refine (walk W a0 w0 a1 w1 a2 (wf_bounds w2)).mono fun e W' ⟨he, bel⟩ => ?_
  subst he
  exact ⟨_, rfl, _, _, _, [], _, [], hW', trodAll_mk1 (shut_bool Try.underlying4 _), (trodAll_cons_mk (Below.trod laidOut (by kernel_rfl) (of_decide_eq_true (by kernel_rfl)) k0 bel lt0) (trodAll_cons_mk (Below.trod laidOut (by kernel_rfl) (of_decide_eq_true (by kernel_rfl)) k1 bel lt1) (trodAll_cons_mk (Below.trod laidOut (by kernel_rfl) (of_decide_eq_true (by kernel_rfl)) k2 bel lt2) trodAll_mk0))), rfl, bel.frame _, fun h => by cases h⟩

theorem over : Rows.fnExactJointTableRow.holds Try.pinned (OpenSpec.ofChange Rows.fnExactJointTableSpec) :=
  OpenClaim.holds_of_wide 10 Try.f10 rfl rfl rfl rfl rfl rfl rfl ⟨rfl, rfl, rfl, rfl, rfl⟩ rfl rfl rfl rfl rfl (by kernel_rfl) Try.func10 (by kernel_rfl)
    (of_decide_eq_true (by kernel_rfl)) (by unfold Func.isWrapper; first | (rw [if_pos (by decide +kernel)]; kernel_rfl) | (rw [if_neg (by decide +kernel)]; exact ⟨rfl, rfl⟩))
    (fun os started H enc _ => lifted os started H enc)

/-- the statement -/
theorem proved : Rows.FnExactJointTableSaid := over
#print axioms proved
end Go.Proofs.Ytngfkajfbgfncaa.jointTable
