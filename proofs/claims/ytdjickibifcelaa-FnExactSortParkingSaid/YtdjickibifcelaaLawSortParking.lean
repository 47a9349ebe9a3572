/- The law FnExactSortParking returns true at every slice of numbers. No condition. -/
import Derived.Test.YtdjickibifcelaaFrame
import Derived.Test.YtdjickibifcelaaParkSort
namespace Go.Proofs.Ytdjickibifcelaa.sortParking
open Go.ChangeShapes Go.WideShapes Go.ChangeAt Go.RowKit
open Go.ChangeMaps (open_string shut_string)
theorem walk (w : World) (v : Value) (xs : List Int) (h : ArgI w v xs) :
    Calls Try.prog 9 #[v] w fun e w' => e = .returned (.bool true) ∧ Below w.heap.size w w' := by
  obtain ⟨A, c, rfl, hc, hm, hrd, _⟩ := h
  by_cases hbig : xs.length ≤ 1048576
  · have H0 := hrd (by omega)
    clear hrd
    go_enter Try.func9, Try.ntmps9
    go_wp2_with fail
    refine (toIntS_any _ _ _ H0).mono ?_; rintro e w1 ⟨t1, rfl, o1, b1⟩
    go_wp2_with fail
    refine (specSortParking_any _ _ _ o1.rd).mono ?_; rintro e w2 ⟨w0, rfl, ow2, b2⟩
    have B2 := below_then b1 b2
    go_wp2_with fail
    refine (toIntS_any _ _ _ (H0.below B2)).mono ?_; rintro e w3 ⟨x0, rfl, ox3, b3⟩
    have B3 := below_then B2 b3
    have ow3 := ow2.below b3
    go_wp2_with fail
    refine (implSortParking_any _ _ _ ox3.rd).mono ?_; rintro e w4 ⟨g0, rfl, og4, b4⟩
    have B4 := below_then B3 b4
    have ow4 := ow3.below b4
    have ox4 := ox3.below b4
    go_wp2_with fail
    refine (eqIntS_any _ _ _ _ _ og4.rd ow4.rd).mono ?_; rintro e w5 ⟨rfl, q5, rfl⟩
    have b5 := below_draws w4 q5
    have B5 := below_then B4 b5
    have ow5 := ow4.below b5
    have ox5 := ox4.below b5
    have og5 := og4.below b5
    go_wp2_with fail
    refine (toIntS_any _ _ _ (H0.below B5)).mono ?_; rintro e w6 ⟨t6, rfl, ot6, b6⟩
    have B6 := below_then B5 b6
    have ow6 := ow5.below b6
    have ox6 := ox5.below b6
    have og6 := og5.below b6
    go_wp2_with fail
    refine (eqIntS_any _ _ _ _ _ ox6.rd ot6.rd).mono ?_; rintro e w7 ⟨rfl, q7, rfl⟩
    have b7 := below_draws w6 q7
    have B7 := below_then B6 b7
    have ow7 := ow6.below b7
    have ox7 := ox6.below b7
    have og7 := og6.below b7
    go_wp2_with fail
    refine (markIntS_any _ _ 1 _ _ ox7 (by omega)).mono ?_; rintro e w8 ⟨rfl, oxm, g8⟩
    have hxlt := ox3.lt
    have hwlt := ow2.lt
    have hglt := og4.lt
    have hs3 := b3.size
    have hs4 := b4.size
    have B8 : Below w.heap.size w w8 := B7.grown g8 B7.size (fun k hk => by have := (hxlt k hk).1; have := B2.size; omega)
    have ow8 := ow7.other g8 (fun j hj e => by have := (hxlt j e).1; have := (hwlt j hj).2; omega)
    have og8 := og7.other g8 (fun j hj e => by have := (hxlt j e).2; have := (hglt j hj).1; omega)
    go_wp2_with fail
    refine (eqIntS_any _ _ _ _ _ og8.rd ow8.rd).mono ?_; rintro e w9 ⟨rfl, q9, rfl⟩
    have b9 := below_draws w8 q9
    have B9 := below_then B8 b9
    have ow9 := ow8.below b9
    have og9 := og8.below b9
    have hl9 := og9.2
    go_wp2_with fail
    refine (markIntS_any _ _ 1 _ _ og9 (by omega)).mono ?_; rintro e w10 ⟨rfl, ogm, g10⟩
    have B10 : Below w.heap.size w w10 := B9.grown g10 B9.size (fun k hk => by have := (hglt k hk).1; have := B3.size; omega)
    have ow10 := ow9.other g10 (fun j hj e => by have := (hglt j e).1; have := (hwlt j hj).2; omega)
    go_wp2_with fail
    refine (heldIntS_any _ _ 1 _ ogm.rd (by omega)).mono ?_; rintro e w11 ⟨rfl, q11, rfl⟩
    have b11 := below_draws w10 q11
    have B11 := below_then B10 b11
    have ow11 := ow10.below b11
    have om11 := ogm.below b11
    go_wp2_with fail
    refine (toIntS_any _ _ _ (H0.below B11)).mono ?_; rintro e w12 ⟨t12, rfl, ot12, b12⟩
    have B12 := below_then B11 b12
    have ow12 := ow11.below b12
    have om12 := om11.below b12
    go_wp2_with fail
    refine (implSortParking_any _ _ _ ot12.rd).mono ?_; rintro e w13 ⟨h0, rfl, oh13, b13⟩
    have B13 := below_then B12 b13
    have ow13 := ow12.below b13
    have om13 := om12.below b13
    go_wp2_with fail
    refine (eqIntS_any _ _ _ _ _ oh13.rd ow13.rd).mono ?_; rintro e w14 ⟨rfl, q14, rfl⟩
    have b14 := below_draws w13 q14
    have B14 := below_then B13 b14
    have om14 := om13.below b14
    go_wp2_with fail
    refine (heldIntS_any _ _ 1 _ om14.rd (by omega)).mono ?_; rintro e w15 ⟨rfl, q15, rfl⟩
    have B15 := below_then B14 (below_draws _ q15)
    go_wp2_with fail
    go_ret
    first | exact ⟨rfl, B15⟩ | (rw [drewN_two] at B15; exact ⟨rfl, B15⟩)
  · clear hrd
    go_enter Try.func9, Try.ntmps9
    go_wp2_with fail
    go_ret
    exact ⟨rfl, Below.refl _ _⟩
set_option maxRecDepth 100000 in
theorem lifted (os : Os) (started : os.Started) (H : Type) (enc : TypeId × Value → H) :
    ReturnsInHanded {} Try.checked os 9 .any (Rows.fnExactSortParkingSpec.pre6 enc Try.prog Try.f9 Rows.fnExactSortParkingRow.domain false) (Rows.fnExactSortParkingSpec.post enc Try.prog Try.f9 false true false false) := by
  refine returnsInHanded_of_change (C := Try.checked) own started (by kernel_rfl) Try.func9
    (ChangeSpec.witness6 (enc := enc) (C := Try.checked) false ⟨#[], #[.slice none 0 0], []⟩ 8 (by kernel_rfl) (by kernel_rfl) (by kernel_rfl) (by kernel_rfl)) ?_
  intro W base args ds gs before hval0 hW hcnd _
  have hval : ∀ (j : Nat) t v, Try.f9.params[j]? = some t → args[j]? = some v → Value.okWide Try.prog W .any base t v := hval0
  have hW' := hW
  obtain ⟨p, q, hA0, hV, rfl, hfz, hnd⟩ := hW
  have hA : DataW.TrodAll enc Try.prog W 0 (fun _ => true) true Try.f9.params.toList args.toList ds p := hA0
  rw [Try.params9] at hA hval
  obtain ⟨v0, vs0, d0, ds0, p0, q0, hargs, rfl, rfl, h0, r0⟩ := trodAll_cons hA
  obtain ⟨rfl, rfl, rfl⟩ := trodAll_nil r0
  obtain rfl : args = #[v0] := by cases args; simp_all
  obtain ⟨rfl, rfl⟩ := trodVars_none hV
  obtain ⟨a0, len0, cap0, rfl⟩ := okWide_slice Try.underlying22 (hval 0 22 v0 rfl rfl)
  have k0 := h0
  have lt0 : ∀ x ∈ p0, x.block < W.heap.size := by obtain ⟨m, hm⟩ := k0; exact DataW.trod_lt m _ _ _ hm
  obtain ⟨z0, w0⟩ : ∃ zs, ArgI W (.slice a0 len0 cap0) zs := by
    obtain ⟨fuel, hf⟩ := h0
    rcases open_ints Try.underlying22 Try.underlying3 (by kernel_rfl) hf with ⟨hcs, _⟩ | ⟨x, l, c, zs, hcs, _, hl, hm, hz, _, hcell, hwz⟩
    · simp [Value.cells] at hcs
      obtain ⟨rfl, rfl, rfl⟩ := hcs
      exact ⟨[], ArgI.nil_ _⟩
    · simp [Value.cells] at hcs
      obtain ⟨rfl, rfl, rfl⟩ := hcs
      exact ⟨zs.take len0, ArgI.of_row hl hm (by simpa using hz) hcell hwz⟩
  clear hA0 hval0
  refine (walk W (.slice a0 len0 cap0) z0 w0).mono fun e W' ⟨he, bel⟩ => ?_
  subst he
  exact ⟨_, rfl, _, _, _, [], _, [], hW', trodAll_mk1 (shut_bool Try.underlying4 _), (trodAll_cons_mk (Below.trod laidOut (by kernel_rfl) (of_decide_eq_true (by kernel_rfl)) k0 bel lt0) trodAll_mk0), rfl, bel.frame _, fun h => by cases h⟩

theorem over : Rows.fnExactSortParkingRow.holds Try.pinned (OpenSpec.ofChange Rows.fnExactSortParkingSpec) :=
  OpenClaim.holds_of_wide 9 Try.f9 rfl rfl rfl rfl rfl rfl rfl ⟨rfl, rfl, rfl, rfl, rfl⟩ rfl rfl rfl rfl rfl (by kernel_rfl) Try.func9 (by kernel_rfl)
    (of_decide_eq_true (by kernel_rfl)) (by unfold Func.isWrapper; first | (rw [if_pos (by decide +kernel)]; kernel_rfl) | (rw [if_neg (by decide +kernel)]; exact ⟨rfl, rfl⟩))
    (fun os started H enc _ => lifted os started H enc)

/-- the statement -/
theorem proved : Rows.FnExactSortParkingSaid := over
#print axioms proved
end Go.Proofs.Ytdjickibifcelaa.sortParking
