/- The law FnExactDistributionOf returns true at all arguments. No condition. -/
import Derived.Test.YtdjickibifcelaaStatDist
import Derived.Test.YtdjickibifcelaaFrame
namespace Go.Proofs.Ytdjickibifcelaa.distributionOf
open Go.ChangeShapes Go.WideShapes Go.ChangeAt Go.RowKit
open Go.ChangeMaps (open_string shut_string)
theorem walk (w : World) (a0 : ByteArray) (h0 : a0.size ≤ maxLen) (a1 : Int) (_h1 : I64 a1) :
    Calls Try.prog 14 #[.string a0, .int .i64 a1] w fun e w' => e = .returned (.bool true) ∧ Below w.heap.size w w' := by
  unfold maxLen at h0
  by_cases hb0 : a0.size ≤ 1048576
  · go_enter Try.func14, Try.ntmps14
    go_wp2_with fail
    refine (specDistributionOf_any a0 a1 _ (by omega) _h1).mono ?_; rintro e w1 ⟨w0, rfl, ow1, b1⟩
    have B1 := b1
    go_wp2_with fail
    refine (implDistributionOf_any a0 a1 _ (by omega) _h1).mono ?_; rintro e w2 ⟨g0, rfl, og2, b2⟩
    have B2 := below_then B1 b2
    have ow2 := ow1.below b2
    go_wp2_with fail
    refine (eqIntS_any _ _ _ _ _ og2.rd ow2.rd).mono ?_; rintro e w3 ⟨rfl, q3, rfl⟩
    have b3 := below_draws w2 q3
    have B3 := below_then B2 b3
    have ow3 := ow2.below b3
    have og3 := og2.below b3
    go_wp2_with fail
    have hs1 := b1.size
    have hs2 := b2.size
    have hwlt := ow1.lt
    have hglt := og2.lt
    have hl4 := og3.2
    refine (markIntS_any _ _ 1 _ _ og3 (by omega)).mono ?_; rintro e w4 ⟨rfl, om4, gk4⟩
    have B4 : Below w.heap.size w w4 := B3.grown gk4 B3.size (fun k hk => by have := (hglt k hk).1; omega)
    have ow4 := ow3.other gk4 (fun j hj e => by have := (hglt j e).1; have := (hwlt j hj).2; omega)
    go_wp2_with fail
    refine (heldIntS_any _ _ 1 _ om4.rd (by omega)).mono ?_; rintro e w5 ⟨rfl, q5, rfl⟩
    have b5 := below_draws w4 q5
    have B5 := below_then B4 b5
    have ow5 := ow4.below b5
    have om5 := om4.below b5
    go_wp2_with fail
    refine (implDistributionOf_any a0 a1 _ (by omega) _h1).mono ?_; rintro e w6 ⟨hh0, rfl, oh6, b6⟩
    have B6 := below_then B5 b6
    have ow6 := ow5.below b6
    have om6 := om5.below b6
    go_wp2_with fail
    refine (eqIntS_any _ _ _ _ _ oh6.rd ow6.rd).mono ?_; rintro e w7 ⟨rfl, q7, rfl⟩
    have b7 := below_draws w6 q7
    have B7 := below_then B6 b7
    have ow7 := ow6.below b7
    have om7 := om6.below b7
    have oh7 := oh6.below b7
    go_wp2_with fail
    refine (heldIntS_any _ _ 1 _ om7.rd (by omega)).mono ?_; rintro e w8 ⟨rfl, q8, rfl⟩
    have b8 := below_draws (w6.drewN q7) q8
    have B8 := below_then B7 b8
    have ow8 := ow7.below b8
    have om8 := om7.below b8
    go_wp2_with fail
    go_ret
    first | exact ⟨rfl, B8⟩ | (rw [drewN_two] at B8; exact ⟨rfl, B8⟩)
  · go_enter Try.func14, Try.ntmps14
    go_wp2_with fail
    go_ret
    exact ⟨rfl, Below.refl _ _⟩
set_option maxRecDepth 100000 in
theorem lifted (os : Os) (started : os.Started) (H : Type) (enc : TypeId × Value → H) :
    ReturnsInHanded {} Try.checked os 14 .any (Rows.fnExactDistributionOfSpec.pre6 enc Try.prog Try.f14 Rows.fnExactDistributionOfRow.domain false) (Rows.fnExactDistributionOfSpec.post enc Try.prog Try.f14 false true false false) := by
  refine returnsInHanded_of_change (C := Try.checked) own started (by kernel_rfl) Try.func14
    (ChangeSpec.witness6 (enc := enc) (C := Try.checked) false ⟨#[], #[.string ByteArray.empty, .int .i64 0], []⟩ 8 (by kernel_rfl) (by kernel_rfl) (by kernel_rfl) (by kernel_rfl)) ?_
  intro W base args ds gs before hval0 hW hcnd _
  have hval : ∀ (j : Nat) t v, Try.f14.params[j]? = some t → args[j]? = some v → Value.okWide Try.prog W .any base t v := hval0
  have hW' := hW
  obtain ⟨p, q, hA0, hV, rfl, hfz, hnd⟩ := hW
  have hA : DataW.TrodAll enc Try.prog W 0 (fun _ => true) true Try.f14.params.toList args.toList ds p := hA0
  rw [Try.params14] at hA hval
  obtain ⟨v0, vs0, d0, ds0, p0, q0, hargs, rfl, rfl, h0, r0⟩ := trodAll_cons hA
  obtain ⟨v1, vs1, d1, ds1, p1, q1, rfl, rfl, rfl, h1, r1⟩ := trodAll_cons r0
  obtain ⟨rfl, rfl, rfl⟩ := trodAll_nil r1
  obtain rfl : args = #[v0, v1] := by cases args; simp_all
  obtain ⟨rfl, rfl⟩ := trodVars_none hV
  have k0 := h0
  have lt0 : ∀ x ∈ p0, x.block < W.heap.size := by obtain ⟨m, hm⟩ := k0; exact DataW.trod_lt m _ _ _ hm
  obtain ⟨a0, rfl, e0, _, w0⟩ := open_string Try.underlying9 (hval 0 9 v0 rfl rfl) h0
  have k1 := h1
  have lt1 : ∀ x ∈ p1, x.block < W.heap.size := by obtain ⟨m, hm⟩ := k1; exact DataW.trod_lt m _ _ _ hm
  obtain ⟨a1, rfl, e1, _, w1⟩ := open_int Try.underlying3 (hval 1 3 v1 rfl rfl) h1
  clear hA0 hval0
  refine (walk W a0 w0 a1 (wf_bounds w1)).mono fun e W' ⟨he, bel⟩ => ?_
  subst he
  exact ⟨_, rfl, _, _, _, [], _, [], hW', trodAll_mk1 (shut_bool Try.underlying4 _), (trodAll_cons_mk (Below.trod laidOut (by kernel_rfl) (of_decide_eq_true (by kernel_rfl)) k0 bel lt0) (trodAll_cons_mk (Below.trod laidOut (by kernel_rfl) (of_decide_eq_true (by kernel_rfl)) k1 bel lt1) trodAll_mk0)), rfl, bel.frame _, fun h => by cases h⟩

theorem over : Rows.fnExactDistributionOfRow.holds Try.pinned (OpenSpec.ofChange Rows.fnExactDistributionOfSpec) :=
  OpenClaim.holds_of_wide 14 Try.f14 rfl rfl rfl rfl rfl rfl rfl ⟨rfl, rfl, rfl, rfl, rfl⟩ rfl rfl rfl rfl rfl (by kernel_rfl) Try.func14 (by kernel_rfl)
    (of_decide_eq_true (by kernel_rfl)) (by unfold Func.isWrapper; first | (rw [if_pos (by decide +kernel)]; kernel_rfl) | (rw [if_neg (by decide +kernel)]; exact ⟨rfl, rfl⟩))
    (fun os started H enc _ => lifted os started H enc)

/-- the statement -/
theorem proved : Rows.FnExactDistributionOfSaid := over
#print axioms proved
end Go.Proofs.Ytdjickibifcelaa.distributionOf
