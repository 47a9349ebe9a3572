/- The law FnExactTrianglesOf returns true at all arguments. No condition. -/
import Derived.Test.YtnkkgfeegaiakaaTriOf
import Derived.Test.YtnkkgfeegaiakaaFrameSS
import Derived.Test.YtnkkgfeegaiakaaSSMark
namespace Go.Proofs.Ytnkkgfeegaiakaa.trianglesOf
open Go.ChangeShapes Go.WideShapes Go.ChangeAt Go.RowKit
open Go.ChangeMaps (open_string shut_string)
theorem walk (w : World) (a0 : Int) (_h0 : I64 a0) (v1 : Value) (xs : List (List Int)) (h1 : ArgSS w v1 xs) :
    Calls Try.prog 4 #[.int .i64 a0, v1] w fun e w' => e = .returned (.bool true) ∧ Below w.heap.size w w' := by
  have h00 := h1
  obtain ⟨A, c, rfl, _, _, _⟩ := h1
  have HS := szIntSS_any _ _ w h00
  by_cases hbig : tot xs xs.length ≤ 1048576
  · have H0 := h00.rd hbig
    have hz : ¬ szV xs < 0 := by rw [szV_yes rfl hbig]; omega
    have hofx : off xs xs.length ≤ 1048576 := by unfold off; unfold tot at hbig; omega
    have HH := Lib.hid h00
    have HBG := Lib.hid hbig
    clear h00 hbig
    have hof := toR_off a0 xs
    go_enter Try.func4, Try.ntmps4
    go_wp2_with fail
    refine HS.mono ?_; rintro e w1 ⟨rfl, rfl⟩
    go_wp2_with fail
    refine (toIntSS_any _ _ _ H0).mono ?_; rintro e w1 ⟨t1, rfl, ot1, b1⟩
    have B1 := b1
    go_wp2_with fail
    refine (specTrianglesOf_any a0 _ _ _ ot1.rd _h0).mono ?_; rintro e w2 ⟨w0, rfl, ow2, b2⟩
    have B2 := below_then B1 b2
    go_wp2_with fail
    refine (toIntSS_any _ _ _ (H0.below B2)).mono ?_; rintro e w3 ⟨x0, rfl, ox3, b3⟩
    have B3 := below_then B2 b3
    have ow3 := ow2.below b3
    go_wp2_with fail
    refine (implTrianglesOf_any a0 _ _ _ ox3.rd _h0).mono ?_; rintro e w4 ⟨g0, rfl, og4, b4⟩
    have B4 := below_then B3 b4
    have ow4 := ow3.below b4
    have ox4 := ox3.below b4
    go_wp2_with fail
    refine (eqIntSS_any _ _ _ _ _ og4.rd ow4.rd rfl).mono ?_; rintro e w5 ⟨rfl, q5, rfl⟩
    have b5 := below_draws w4 q5
    have B5 := below_then B4 b5
    have ow5 := ow4.below b5
    have ox5 := ox4.below b5
    have og5 := og4.below b5
    go_wp2_with fail
    have hs1 := b1.size
    have hs2 := b2.size
    have hs3 := b3.size
    have hs4 := b4.size
    refine (toIntSS_any _ _ _ (H0.below B5)).mono ?_; rintro e w6 ⟨t9, rfl, ot6, b6⟩
    have B6 := below_then B5 b6
    have ow6 := ow5.below b6
    have ox6 := ox5.below b6
    have og6 := og5.below b6
    go_wp2_with fail
    refine (eqIntSS_any _ _ _ _ _ ox6.rd ot6.rd rfl).mono ?_; rintro e w7 ⟨rfl, q7, rfl⟩
    have b7 := below_draws w6 q7
    have B7 := below_then B6 b7
    have ow7 := ow6.below b7
    have ox7 := ox6.below b7
    have og7 := og6.below b7
    go_wp2_with fail
    refine (markIntSS_any _ _ 1 _ _ _ ox7 (by omega)).mono ?_; rintro e w8 ⟨rfl, oxm, tk8⟩
    have B8 : Below w.heap.size w w8 := tk8.below B7 B2.size
    have ow8 := ow7.turned tk8 (.inl (by omega))
    have og8 := og7.turned tk8 (.inr (by omega))
    go_wp2_with fail
    refine (eqIntSS_any _ _ _ _ _ og8.rd ow8.rd rfl).mono ?_; rintro e w9 ⟨rfl, q9, rfl⟩
    have b9 := below_draws w8 q9
    have B9 := below_then B8 b9
    have ow9 := ow8.below b9
    have og9 := og8.below b9
    go_wp2_with fail
    refine (markIntSS_any _ _ 1 _ _ _ og9 (by omega)).mono ?_; rintro e w10 ⟨rfl, om10, gk10⟩
    have B10 : Below w.heap.size w w10 := gk10.below B9 B3.size
    have ow10 := ow9.turned gk10 (.inl (by omega))
    go_wp2_with fail
    refine (heldIntSS_any _ _ 1 _ om10.rd (by omega)).mono ?_; rintro e w11 ⟨rfl, q11, rfl⟩
    have b11 := below_draws w10 q11
    have B11 := below_then B10 b11
    have ow11 := ow10.below b11
    have om11 := om10.below b11
    go_wp2_with fail
    refine (toIntSS_any _ _ _ (H0.below B11)).mono ?_; rintro e w12 ⟨t12, rfl, ot12, b12⟩
    have B12 := below_then B11 b12
    have ow12 := ow11.below b12
    have om12 := om11.below b12
    go_wp2_with fail
    refine (implTrianglesOf_any a0 _ _ _ ot12.rd _h0).mono ?_; rintro e w13 ⟨hh0, rfl, oh13, b13⟩
    have B13 := below_then B12 b13
    have ow13 := ow12.below b13
    have om13 := om12.below b13
    go_wp2_with fail
    refine (eqIntSS_any _ _ _ _ _ oh13.rd ow13.rd rfl).mono ?_; rintro e w14 ⟨rfl, q14, rfl⟩
    have b14 := below_draws w13 q14
    have B14 := below_then B13 b14
    have ow14 := ow13.below b14
    have om14 := om13.below b14
    have oh14 := oh13.below b14
    go_wp2_with fail
    refine (heldIntSS_any _ _ 1 _ om14.rd (by omega)).mono ?_; rintro e w15 ⟨rfl, q15, rfl⟩
    have b15 := below_draws (w13.drewN q14) q15
    have B15 := below_then B14 b15
    have ow15 := ow14.below b15
    have om15 := om14.below b15
    go_wp2_with fail
    go_ret
    first | exact ⟨rfl, B15⟩ | (rw [drewN_two] at B15; exact ⟨rfl, B15⟩)
  · have hz : szV xs < 0 := by rw [szV_no hbig]; omega
    clear hbig
    go_enter Try.func4, Try.ntmps4
    go_wp2_with fail
    refine HS.mono ?_; rintro e w1 ⟨rfl, rfl⟩
    go_wp2_with fail
    go_ret
    exact ⟨rfl, Below.refl _ _⟩
set_option maxRecDepth 100000 in
theorem lifted (os : Os) (started : os.Started) (H : Type) (enc : TypeId × Value → H) :
    ReturnsInHanded {} Try.checked os 4 .any (Rows.fnExactTrianglesOfSpec.pre6 enc Try.prog Try.f4 Rows.fnExactTrianglesOfRow.domain false) (Rows.fnExactTrianglesOfSpec.post enc Try.prog Try.f4 false true false false) := by
  refine returnsInHanded_of_change (C := Try.checked) own started (by kernel_rfl) Try.func4
    (ChangeSpec.witness6 (enc := enc) (C := Try.checked) false ⟨#[], #[.int .i64 0, .slice none 0 0], []⟩ 8 (by kernel_rfl) (by kernel_rfl) (by kernel_rfl) (by kernel_rfl)) ?_
  intro W base args ds gs before hval0 hW hcnd _
  have hval : ∀ (j : Nat) t v, Try.f4.params[j]? = some t → args[j]? = some v → Value.okWide Try.prog W .any base t v := hval0
  have hW' := hW
  obtain ⟨p, q, hA0, hV, rfl, hfz, hnd⟩ := hW
  have hA : DataW.TrodAll enc Try.prog W 0 (fun _ => true) true Try.f4.params.toList args.toList ds p := hA0
  rw [Try.params4] at hA hval
  obtain ⟨v0, vs0, d0, ds0, p0, q0, hargs, rfl, rfl, h0, r0⟩ := trodAll_cons hA
  obtain ⟨v1, vs1, d1, ds1, p1, q1, rfl, rfl, rfl, h1, r1⟩ := trodAll_cons r0
  obtain ⟨rfl, rfl, rfl⟩ := trodAll_nil r1
  obtain rfl : args = #[v0, v1] := by cases args; simp_all
  obtain ⟨rfl, rfl⟩ := trodVars_none hV
  have k0 := h0
  have lt0 : ∀ x ∈ p0, x.block < W.heap.size := by obtain ⟨m, hm⟩ := k0; exact DataW.trod_lt m _ _ _ hm
  obtain ⟨a0, rfl, e0, _, w0⟩ := open_int Try.underlying3 (hval 0 3 v0 rfl rfl) h0
  obtain ⟨a1, len1, cap1, rfl⟩ := okWide_slice Try.underlying22 (hval 1 22 v1 rfl rfl)
  have k1 := h1
  have lt1 : ∀ x ∈ p1, x.block < W.heap.size := by obtain ⟨m, hm⟩ := k1; exact DataW.trod_lt m _ _ _ hm
  obtain ⟨z1, w1⟩ : ∃ zs, ArgSS W (.slice a1 len1 cap1) zs := by
    obtain ⟨fuel, hf⟩ := h1
    rcases Go.Deep.open_int_rows Try.underlying22 Try.underlying38 Try.underlying3 (by kernel_rfl) (by kernel_rfl) hf with ⟨hcs, _⟩ | ⟨x, l, c, A, L, C, Z, hcs, _, hl, hm, _, hrows⟩
    · simp [Value.cells] at hcs
      obtain ⟨rfl, rfl, rfl⟩ := hcs
      exact ⟨[], ArgSS.nil_ _⟩
    · simp [Value.cells] at hcs
      obtain ⟨rfl, rfl, rfl⟩ := hcs
      exact ⟨_, ArgSS.of_rows hl hm hrows⟩
  clear hA0 hval0
  refine (walk W a0 (wf_bounds w0) (.slice a1 len1 cap1) z1 w1).mono fun e W' ⟨he, bel⟩ => ?_
  subst he
  exact ⟨_, rfl, _, _, _, [], _, [], hW', trodAll_mk1 (shut_bool Try.underlying4 _), (trodAll_cons_mk (Below.trod laidOut (by kernel_rfl) (of_decide_eq_true (by kernel_rfl)) k0 bel lt0) (trodAll_cons_mk (Below.trod laidOut (by kernel_rfl) (of_decide_eq_true (by kernel_rfl)) k1 bel lt1) trodAll_mk0)), rfl, bel.frame _, fun h => by cases h⟩

theorem over : Rows.fnExactTrianglesOfRow.holds Try.pinned (OpenSpec.ofChange Rows.fnExactTrianglesOfSpec) :=
  OpenClaim.holds_of_wide 4 Try.f4 rfl rfl rfl rfl rfl rfl rfl ⟨rfl, rfl, rfl, rfl, rfl⟩ rfl rfl rfl rfl rfl (by kernel_rfl) Try.func4 (by kernel_rfl)
    (of_decide_eq_true (by kernel_rfl)) (by unfold Func.isWrapper; first | (rw [if_pos (by decide +kernel)]; kernel_rfl) | (rw [if_neg (by decide +kernel)]; exact ⟨rfl, rfl⟩))
    (fun os started H enc _ => lifted os started H enc)

/-- the statement -/
theorem proved : Rows.FnExactTrianglesOfSaid := over
#print axioms proved
end Go.Proofs.Ytnkkgfeegaiakaa.trianglesOf
