/- The law FnExactStatisticNames returns true: the program's names are the reference's, in new memory at each call. No condition. -/
import Derived.Test.YtkfhcljiifpckaaFrame
import Derived.Test.YtkfhcljiifpckaaMarks
namespace Go.Proofs.Ytkfhcljiifpckaa.statisticNames
open Go.ChangeShapes Go.WideShapes Go.ChangeAt Go.RowKit
open Go.ChangeMaps (open_string shut_string)
theorem walk (w : World) : Calls Try.prog 5 #[] w fun e w' => e = .returned (.bool true) ∧ Below w.heap.size w w' := by
  have hn9 : names9.length = 9 := rfl
  have HN := Lib.hid hn9
  clear hn9
  go_enter Try.func5, Try.ntmps5
  go_wp2_with fail
  refine (specStatisticNames_any _).mono ?_; rintro e w1 ⟨r0, rfl, o0, b1⟩
  go_wp2_with fail
  refine (implStatisticNames_any _).mono ?_; rintro e w2 ⟨g0, rfl, og, b2⟩
  have B2 := below_then b1 b2
  have o0' := o0.below b2
  go_wp2_with fail
  refine (eqStringS_any _ _ _ _ _ og.rd o0'.rd rfl).mono ?_; rintro e w3 ⟨rfl, q3, rfl⟩
  have b3 := below_draws w2 q3
  have B3 := below_then B2 b3
  have og3 := og.below b3
  have o03 := o0'.below b3
  go_wp2_with fail
  refine (markStringS_any _ _ _ _ og3 (by rw [HN.out]; omega)).mono ?_; rintro e w4 ⟨rfl, om, hg4⟩
  rw [HN.out] at om
  have B4 : Below w.heap.size w w4 := B3.grown hg4 B3.size (fun k hk => by have := (og3.lt k hk).1; have := b1.size; omega)
  have o04 := o03.grown hg4 (by
    rcases hx : r0.ownBlock with _ | j
    · exact .inl rfl
    · refine .inr (fun e => ?_)
      have h1 := (o0.lt j hx).2
      have h2 := (og3.lt j e.symm).1
      omega)
  go_wp2_with fail
  refine (heldStringS_any _ 9 _ om.rd (by omega)).mono ?_; rintro e w5 ⟨rfl, b5⟩
  have B5 := below_then B4 b5
  have om5 := om.below b5
  have o05 := o04.below b5
  rw [HN.out]
  go_wp2_with fail
  refine (implStatisticNames_any _).mono ?_; rintro e w6 ⟨h0, rfl, oh, b6⟩
  have B6 := below_then B5 b6
  have om6 := om5.below b6
  have o06 := o05.below b6
  go_wp2_with fail
  refine (eqStringS_any _ _ _ _ _ oh.rd o06.rd rfl).mono ?_; rintro e w7 ⟨rfl, q7, rfl⟩
  have b7 := below_draws w6 q7
  have B7 := below_then B6 b7
  have om7 := om6.below b7
  go_wp2_with fail
  refine (heldStringS_any _ 9 _ om7.rd (by omega)).mono ?_; rintro e w8 ⟨rfl, b8⟩
  have B8 := below_then B7 b8
  go_wp2_with fail
  go_ret
  exact ⟨rfl, B8⟩
set_option maxRecDepth 100000 in
theorem lifted (os : Os) (started : os.Started) (H : Type) (enc : TypeId × Value → H) :
    ReturnsInHanded {} Try.checked os 5 .any (Rows.fnExactStatisticNamesSpec.pre6 enc Try.prog Try.f5 Rows.fnExactStatisticNamesRow.domain false) (Rows.fnExactStatisticNamesSpec.post enc Try.prog Try.f5 false true false false) := by
  refine returnsInHanded_of_change (C := Try.checked) own started (by kernel_rfl) Try.func5
    (ChangeSpec.witness6 (enc := enc) (C := Try.checked) false ⟨#[], #[], []⟩ 8 (by kernel_rfl) (by kernel_rfl) (by kernel_rfl) (by kernel_rfl)) ?_
  intro W base args ds gs before hval0 hW hcnd _
  have hval : ∀ (j : Nat) t v, Try.f5.params[j]? = some t → args[j]? = some v → Value.okWide Try.prog W .any base t v := hval0
  have hW' := hW
  obtain ⟨p, q, hA0, hV, rfl, hfz, hnd⟩ := hW
  have hA : DataW.TrodAll enc Try.prog W 0 (fun _ => true) true Try.f5.params.toList args.toList ds p := hA0
  rw [Try.params5] at hA hval
  obtain ⟨rfl, rfl, rfl⟩ := trodAll_none hA
  obtain ⟨rfl, rfl⟩ := trodVars_none hV
  clear hA0 hval0
  refine (walk W).mono fun e W' ⟨he, bel⟩ => ?_
  subst he
  exact ⟨_, rfl, _, _, _, [], _, [], hW', trodAll_mk1 (shut_bool Try.underlying4 _), trodAll_mk0, rfl, bel.frame _, fun h => by cases h⟩

theorem over : Rows.fnExactStatisticNamesRow.holds Try.pinned (OpenSpec.ofChange Rows.fnExactStatisticNamesSpec) :=
  OpenClaim.holds_of_wide 5 Try.f5 rfl rfl rfl rfl rfl rfl rfl ⟨rfl, rfl, rfl, rfl, rfl⟩ rfl rfl rfl rfl rfl (by kernel_rfl) Try.func5 (by kernel_rfl)
    (of_decide_eq_true (by kernel_rfl)) (by unfold Func.isWrapper; first | (rw [if_pos (by decide +kernel)]; kernel_rfl) | (rw [if_neg (by decide +kernel)]; exact ⟨rfl, rfl⟩))
    (fun os started H enc _ => lifted os started H enc)

/-- the statement -/
theorem proved : Rows.FnExactStatisticNamesSaid := over
#print axioms proved
end Go.Proofs.Ytkfhcljiifpckaa.statisticNames
