/- The law FnPermutations returns true at every code: permutations without 231 and paths correspond, the inverse turns inversions not, and both patterns are avoided equally often. No condition. -/
import Derived.Test.YtnkkgfeegaiakaaGround
import Derived.Test.YtnkkgfeegaiakaaFnWords
import Derived.Test.YtnkkgfeegaiakaaDrawPerm
import Derived.Test.YtnkkgfeegaiakaaDrawAv
import Derived.Test.YtnkkgfeegaiakaaDrawTxt
import Derived.Test.YtnkkgfeegaiakaaPlain30
import Derived.Test.YtnkkgfeegaiakaaPermOf
import Derived.Test.YtnkkgfeegaiakaaPermPathImpl
import Derived.Test.YtnkkgfeegaiakaaPermTriple
import Derived.Test.YtnkkgfeegaiakaaPermInv
import Derived.Test.YtnkkgfeegaiakaaPermStat
import Derived.Test.YtnkkgfeegaiakaaPerm
import Derived.Test.YtnkkgfeegaiakaaAvoidMain
import Derived.Test.YtnkkgfeegaiakaaCatalan
namespace Go.Proofs.Ytnkkgfeegaiakaa.permutations
open Go.ChangeShapes Go.WideShapes Go.ChangeAt Go.RowKit
open Go.ChangeMaps (open_string shut_string)
set_option maxRecDepth 100000 in
theorem av_tst : ((List.range 6).all fun n => decide (((avR (n : Int) [50, 51, 49]).1.length : Int) = catV n) && decide (((avR (n : Int) [51, 50, 49]).1.length : Int) = catV n)) = true := by decide +kernel
theorem av_count {n : Int} {p : List UInt8} (h : (avR n p).2 = true) : ∃ k : Nat, k ≤ 5 ∧ n = (k : Int) ∧ ((avR n p).1.length : Int) = catV k := by
  by_cases hc : (0 ≤ n ∧ n ≤ 5) ∧ (p = [50, 51, 49] ∨ p = [51, 50, 49])
  · obtain ⟨⟨h0, h5⟩, hp⟩ := hc
    obtain ⟨k, rfl⟩ := Int.eq_ofNat_of_zero_le h0
    have := List.all_eq_true.1 av_tst k (List.mem_range.2 (by omega))
    rw [Bool.and_eq_true] at this
    refine ⟨k, by omega, rfl, ?_⟩
    rcases hp with rfl | rfl
    · exact of_decide_eq_true this.1
    · exact of_decide_eq_true this.2
  · unfold avR at h; rw [if_neg hc] at h; cases h
set_option maxRecDepth 8000 in
set_option maxHeartbeats 8000000 in
theorem walk (w : World) (v : Value) (bs : List UInt8) (h : ArgB w v bs) :
    Calls Try.prog 7 #[v] w fun e w' => e = .returned (.bool true) ∧ Below w.heap.size w w' := by
  have HB := big_any v bs w h
  by_cases hbig : 1048576 < bs.length
  · rw [decide_eq_true hbig] at HB
    go_enter Try.func7, Try.ntmps7
    go_wp2_with fail
    refine HB.mono ?_; rintro e w1 ⟨rfl, rfl⟩
    go_wp2_with fail
    go_ret
    exact ⟨rfl, Below.refl _ _⟩
  · rw [decide_eq_false hbig] at HB
    have r_code : RdR bf w v bs := by
      obtain ⟨A, c, rfl, _, hr⟩ := h
      exact hr (by omega)
    have B0 := Below.refl w.heap.size w
    clear hbig h
    go_enter Try.func7, Try.ntmps7
    go_wp2_with fail
    refine HB.mono ?_; clear HB; rintro e w1 ⟨rfl, rfl⟩
    go_wp2_with fail
    have H := DrawPermutationOf_any v bs w r_code
    refine H.mono ?_; clear H; rintro e w1 ⟨sw, rfl, pw, b⟩
    have B1 := below_then B0 b
    replace r_code := r_code.below b
    clear B0 b
    have hsw := pw.le
    go_wp2_with fail
    have H := implPermutationOf_any sw w1 hsw
    refine H.mono ?_; clear H; rintro e w2 ⟨rP, rfl, oP, b⟩
    have B2 := below_then B1 b
    replace r_code := r_code.below b
    clear B1 b
    have r_P := oP.rd
    clear oP
    go_wp2_with fail
    have H := specPermutationOf_any sw w2 hsw
    refine H.mono ?_; clear H; rintro e w3 ⟨rQ, rfl, oQ, b⟩
    have B3 := below_then B2 b
    replace r_code := r_code.below b
    replace r_P := r_P.below b
    clear B2 b
    have r_Q := oQ.rd
    clear oQ
    by_cases hD : DyckP (L sw)
    · have HPP := Lib.hid (path_perm (L_short pw hD) hD)
      have HYES : Hid ((poR (L sw)).2 = true) := Lib.hid (by unfold poR; rw [if_pos hD])
      have HC : Hid (decide (TripR R231 (poR (L sw)).1) = false) := Lib.hid (decide_eq_false (by have := pthR_yes (poR (L sw)).1; rw [HPP.out] at this; exact (of_decide_eq_true this.symm).2))
      clear hD
      go_wp2_with fail
      have H := to_below (sameInts_any _ _ _ _ _ r_P r_Q)
      rw [decide_eq_true (rfl : (poR (L sw)).1 = (poR (L sw)).1)] at H
      refine H.mono ?_; clear H; rintro e w4 ⟨rfl, b⟩
      have B4 := below_then B3 b
      replace r_code := r_code.below b
      replace r_P := r_P.below b
      replace r_Q := r_Q.below b
      clear B3 b
      clear r_P
      rw [HYES.out]
      go_wp2_with fail
      have H := retSB_to (implPathOfPermutation_any _ _ _ r_Q) HPP.out (S_L sw)
      refine H.mono ?_; clear H; rintro e w5 ⟨rfl, b⟩
      have B5 := below_then B4 b
      replace r_code := r_code.below b
      replace r_Q := r_Q.below b
      clear B4 b
      go_wp2_with fail
      have H := implContains231_any _ _ _ r_Q
      rw [HC.out] at H
      refine H.mono ?_; clear H; rintro e w6 ⟨rfl, b⟩
      have B6 := below_then B5 b
      replace r_code := r_code.below b
      replace r_Q := r_Q.below b
      clear B5 b
      go_wp2_with fail
      clear r_Q
      have H := DrawInverseOf_any v bs w6 r_code
      refine H.mono ?_; clear H; rintro e w7 ⟨ra, xa, rfl, r_a, pa, b⟩
      have B7 := below_then B6 b
      replace r_code := r_code.below b
      clear B6 b
      obtain ⟨Aa, ca, rfl⟩ := r_a.shape
      go_wp2_with fail
      have H := implInverseOf_any _ _ _ r_a
      refine H.mono ?_; clear H; rintro e w8 ⟨rb, rfl, ob, b⟩
      have B8 := below_then B7 b
      replace r_code := r_code.below b
      replace r_a := r_a.below b
      clear B7 b
      have r_b := ob.rd
      clear ob
      go_wp2_with fail
      have H := specInverseOf_any _ _ _ r_a
      refine H.mono ?_; clear H; rintro e w9 ⟨rc, rfl, oc, b⟩
      have B9 := below_then B8 b
      replace r_code := r_code.below b
      replace r_a := r_a.below b
      replace r_b := r_b.below b
      clear B8 b
      have r_c := oc.rd
      clear oc
      by_cases hA : PermP xa
      · obtain ⟨n1, n2⟩ := perm_facts hA pa
        have HN1 := Lib.hid n1
        have HN2 := Lib.hid n2
        rw [show (invR xa).2 = true from by rw [invR_yes, decide_eq_true hA]]
        clear hA n1 n2
        go_wp2_with fail
        have H := to_below (sameInts_any _ _ _ _ _ r_b r_c)
        rw [decide_eq_true (rfl : (invR xa).1 = (invR xa).1)] at H
        refine H.mono ?_; clear H; rintro e w10 ⟨rfl, b⟩
        have B10 := below_then B9 b
        replace r_code := r_code.below b
        replace r_a := r_a.below b
        replace r_b := r_b.below b
        replace r_c := r_c.below b
        clear B9 b
        go_wp2_with fail
        clear r_b
        have H := implInversionsOf_any _ _ _ r_c
        rw [HN1.out] at H
        refine H.mono ?_; clear H; rintro e w11 ⟨rfl, b⟩
        have B11 := below_then B10 b
        replace r_code := r_code.below b
        replace r_a := r_a.below b
        replace r_c := r_c.below b
        clear B10 b
        go_wp2_with fail
        have H := implInversionsOf_any _ _ _ r_a
        refine H.mono ?_; clear H; rintro e w12 ⟨rfl, b⟩
        have B12 := below_then B11 b
        replace r_code := r_code.below b
        replace r_a := r_a.below b
        replace r_c := r_c.below b
        clear B11 b
        go_wp2_with fail
        have H := implContains321_any _ _ _ r_c
        rw [HN2.out] at H
        refine H.mono ?_; clear H; rintro e w13 ⟨rfl, b⟩
        have B13 := below_then B12 b
        replace r_code := r_code.below b
        replace r_a := r_a.below b
        replace r_c := r_c.below b
        clear B12 b
        go_wp2_with fail
        have H := implContains321_any _ _ _ r_a
        refine H.mono ?_; clear H; rintro e w14 ⟨rfl, b⟩
        have B14 := below_then B13 b
        replace r_code := r_code.below b
        replace r_a := r_a.below b
        replace r_c := r_c.below b
        clear B13 b
        go_wp2_with fail
        clear r_a
        clear r_c
        have H := DrawPathOfPermutation_any v bs w14 r_code
        refine H.mono ?_; clear H; rintro e w15 ⟨rd, xd, rfl, r_d, pd, b⟩
        have B15 := below_then B14 b
        replace r_code := r_code.below b
        clear B14 b
        obtain ⟨Ad, cd, rfl⟩ := r_d.shape
        go_wp2_with fail
        have H := implPathOfPermutation_any _ _ _ r_d
        refine H.mono ?_; clear H; rintro e w16 ⟨rfl, b⟩
        have B16 := below_then B15 b
        replace r_code := r_code.below b
        replace r_d := r_d.below b
        clear B15 b
        go_wp2_with fail
        have H := specPathOfPermutation_any _ _ _ r_d
        refine H.mono ?_; clear H; rintro e w17 ⟨rfl, b⟩
        have B17 := below_then B16 b
        replace r_code := r_code.below b
        replace r_d := r_d.below b
        clear B16 b
        go_wp2_with fail
        have H := DrawAvoiders_any v bs w17 r_code
        refine H.mono ?_; clear H; rintro e w18 ⟨N9, p9, rfl, hp9, b⟩
        have B18 := below_then B17 b
        replace r_code := r_code.below b
        replace r_d := r_d.below b
        clear B17 b
        go_wp2_with fail
        clear r_code
        have hp9' : p9.size ≤ 1099511627776 := by omega
        have H := implAvoiders_any N9 p9 w18 hp9'
        refine H.mono ?_; clear H; rintro e w19 ⟨rl, rfl, ol, b⟩
        have B19 := below_then B18 b
        replace r_d := r_d.below b
        clear B18 b
        have r_l := ol.rd
        clear ol
        go_wp2_with fail
        have H := specAvoiders_any N9 p9 w19 hp9'
        refine H.mono ?_; clear H; rintro e w20 ⟨rm, rfl, om, b⟩
        have B20 := below_then B19 b
        replace r_d := r_d.below b
        replace r_l := r_l.below b
        clear B19 b
        have r_m := om.rd
        clear om
        by_cases h5 : (avR N9 p9.toList).2 = true
        · obtain ⟨n9, hn9, rfl, hc9⟩ := av_count h5
          rw [h5]
          have HC9 := Lib.hid hc9
          clear h5 hc9
          obtain ⟨A9, c9, rfl⟩ := r_m.shape
          go_wp2_with fail
          have H := to_below (sameLists_any _ _ _ _ _ r_l r_m rfl)
          refine H.mono ?_; clear H; rintro e w21 ⟨rfl, b⟩
          have B21 := below_then B20 b
          replace r_d := r_d.below b
          replace r_l := r_l.below b
          replace r_m := r_m.below b
          clear B20 b
          clear r_l
          clear r_m
          go_wp2_with fail
          have H := implCatalan_any n9 hn9 w21
          rw [← HC9.out] at H
          refine H.mono ?_; clear H; rintro e w22 ⟨rfl, b⟩
          have B22 := below_then B21 b
          replace r_d := r_d.below b
          clear B21 b
          go_wp2_with fail
          have H := implIsPermutation_any _ _ _ r_d
          refine H.mono ?_; clear H; rintro e w23 ⟨rfl, b⟩
          have B23 := below_then B22 b
          replace r_d := r_d.below b
          clear B22 b
          go_wp2_with fail
          have H := to_below (specIsPermutation_any _ _ _ r_d)
          refine H.mono ?_; clear H; rintro e w24 ⟨rfl, b⟩
          have B24 := below_then B23 b
          replace r_d := r_d.below b
          clear B23 b
          go_wp2_with fail
          have H := implContains231_any _ _ _ r_d
          refine H.mono ?_; clear H; rintro e w25 ⟨rfl, b⟩
          have B25 := below_then B24 b
          replace r_d := r_d.below b
          clear B24 b
          go_wp2_with fail
          have H := to_below (specContains231_any _ _ _ r_d)
          refine H.mono ?_; clear H; rintro e w26 ⟨rfl, b⟩
          have B26 := below_then B25 b
          replace r_d := r_d.below b
          clear B25 b
          go_wp2_with fail
          have H := implContains321_any _ _ _ r_d
          refine H.mono ?_; clear H; rintro e w27 ⟨rfl, b⟩
          have B27 := below_then B26 b
          replace r_d := r_d.below b
          clear B26 b
          go_wp2_with fail
          have H := to_below (specContains321_any _ _ _ r_d)
          refine H.mono ?_; clear H; rintro e w28 ⟨rfl, b⟩
          have B28 := below_then B27 b
          replace r_d := r_d.below b
          clear B27 b
          go_wp2_with fail
          have H := implInversionsOf_any _ _ _ r_d
          refine H.mono ?_; clear H; rintro e w29 ⟨rfl, b⟩
          have B29 := below_then B28 b
          replace r_d := r_d.below b
          clear B28 b
          go_wp2_with fail
          have H := to_below (specInversionsOf_any _ _ _ r_d)
          refine H.mono ?_; clear H; rintro e w30 ⟨rfl, b⟩
          have B30 := below_then B29 b
          replace r_d := r_d.below b
          clear B29 b
          go_wp2_with fail
          have H := implDescentsOf_any _ _ _ r_d
          refine H.mono ?_; clear H; rintro e w31 ⟨rfl, b⟩
          have B31 := below_then B30 b
          replace r_d := r_d.below b
          clear B30 b
          go_wp2_with fail
          have H := to_below (specDescentsOf_any _ _ _ r_d)
          refine H.mono ?_; clear H; rintro e w32 ⟨rfl, b⟩
          have B32 := below_then B31 b
          replace r_d := r_d.below b
          clear B31 b
          go_wp2_with fail
          go_ret
          exact ⟨rfl, B32⟩
        · rw [Bool.eq_false_iff.2 h5]
          clear h5
          go_wp2_with fail
          have H := to_below (sameLists_any _ _ _ _ _ r_l r_m rfl)
          refine H.mono ?_; clear H; rintro e w21 ⟨rfl, b⟩
          have B21 := below_then B20 b
          replace r_d := r_d.below b
          replace r_l := r_l.below b
          replace r_m := r_m.below b
          clear B20 b
          go_wp2_with fail
          clear r_l
          clear r_m
          have H := implIsPermutation_any _ _ _ r_d
          refine H.mono ?_; clear H; rintro e w22 ⟨rfl, b⟩
          have B22 := below_then B21 b
          replace r_d := r_d.below b
          clear B21 b
          go_wp2_with fail
          have H := to_below (specIsPermutation_any _ _ _ r_d)
          refine H.mono ?_; clear H; rintro e w23 ⟨rfl, b⟩
          have B23 := below_then B22 b
          replace r_d := r_d.below b
          clear B22 b
          go_wp2_with fail
          have H := implContains231_any _ _ _ r_d
          refine H.mono ?_; clear H; rintro e w24 ⟨rfl, b⟩
          have B24 := below_then B23 b
          replace r_d := r_d.below b
          clear B23 b
          go_wp2_with fail
          have H := to_below (specContains231_any _ _ _ r_d)
          refine H.mono ?_; clear H; rintro e w25 ⟨rfl, b⟩
          have B25 := below_then B24 b
          replace r_d := r_d.below b
          clear B24 b
          go_wp2_with fail
          have H := implContains321_any _ _ _ r_d
          refine H.mono ?_; clear H; rintro e w26 ⟨rfl, b⟩
          have B26 := below_then B25 b
          replace r_d := r_d.below b
          clear B25 b
          go_wp2_with fail
          have H := to_below (specContains321_any _ _ _ r_d)
          refine H.mono ?_; clear H; rintro e w27 ⟨rfl, b⟩
          have B27 := below_then B26 b
          replace r_d := r_d.below b
          clear B26 b
          go_wp2_with fail
          have H := implInversionsOf_any _ _ _ r_d
          refine H.mono ?_; clear H; rintro e w28 ⟨rfl, b⟩
          have B28 := below_then B27 b
          replace r_d := r_d.below b
          clear B27 b
          go_wp2_with fail
          have H := to_below (specInversionsOf_any _ _ _ r_d)
          refine H.mono ?_; clear H; rintro e w29 ⟨rfl, b⟩
          have B29 := below_then B28 b
          replace r_d := r_d.below b
          clear B28 b
          go_wp2_with fail
          have H := implDescentsOf_any _ _ _ r_d
          refine H.mono ?_; clear H; rintro e w30 ⟨rfl, b⟩
          have B30 := below_then B29 b
          replace r_d := r_d.below b
          clear B29 b
          go_wp2_with fail
          have H := to_below (specDescentsOf_any _ _ _ r_d)
          refine H.mono ?_; clear H; rintro e w31 ⟨rfl, b⟩
          have B31 := below_then B30 b
          replace r_d := r_d.below b
          clear B30 b
          go_wp2_with fail
          go_ret
          exact ⟨rfl, B31⟩
      · rw [show (invR xa).2 = false from by rw [invR_yes, decide_eq_false hA]]
        clear hA
        go_wp2_with fail
        have H := to_below (sameInts_any _ _ _ _ _ r_b r_c)
        rw [decide_eq_true (rfl : (invR xa).1 = (invR xa).1)] at H
        refine H.mono ?_; clear H; rintro e w10 ⟨rfl, b⟩
        have B10 := below_then B9 b
        replace r_code := r_code.below b
        replace r_a := r_a.below b
        replace r_b := r_b.below b
        replace r_c := r_c.below b
        clear B9 b
        go_wp2_with fail
        clear r_a
        clear r_b
        clear r_c
        have H := DrawPathOfPermutation_any v bs w10 r_code
        refine H.mono ?_; clear H; rintro e w11 ⟨rd, xd, rfl, r_d, pd, b⟩
        have B11 := below_then B10 b
        replace r_code := r_code.below b
        clear B10 b
        obtain ⟨Ad, cd, rfl⟩ := r_d.shape
        go_wp2_with fail
        have H := implPathOfPermutation_any _ _ _ r_d
        refine H.mono ?_; clear H; rintro e w12 ⟨rfl, b⟩
        have B12 := below_then B11 b
        replace r_code := r_code.below b
        replace r_d := r_d.below b
        clear B11 b
        go_wp2_with fail
        have H := specPathOfPermutation_any _ _ _ r_d
        refine H.mono ?_; clear H; rintro e w13 ⟨rfl, b⟩
        have B13 := below_then B12 b
        replace r_code := r_code.below b
        replace r_d := r_d.below b
        clear B12 b
        go_wp2_with fail
        have H := DrawAvoiders_any v bs w13 r_code
        refine H.mono ?_; clear H; rintro e w14 ⟨N9, p9, rfl, hp9, b⟩
        have B14 := below_then B13 b
        replace r_code := r_code.below b
        replace r_d := r_d.below b
        clear B13 b
        go_wp2_with fail
        clear r_code
        have hp9' : p9.size ≤ 1099511627776 := by omega
        have H := implAvoiders_any N9 p9 w14 hp9'
        refine H.mono ?_; clear H; rintro e w15 ⟨rl, rfl, ol, b⟩
        have B15 := below_then B14 b
        replace r_d := r_d.below b
        clear B14 b
        have r_l := ol.rd
        clear ol
        go_wp2_with fail
        have H := specAvoiders_any N9 p9 w15 hp9'
        refine H.mono ?_; clear H; rintro e w16 ⟨rm, rfl, om, b⟩
        have B16 := below_then B15 b
        replace r_d := r_d.below b
        replace r_l := r_l.below b
        clear B15 b
        have r_m := om.rd
        clear om
        by_cases h5 : (avR N9 p9.toList).2 = true
        · obtain ⟨n9, hn9, rfl, hc9⟩ := av_count h5
          rw [h5]
          have HC9 := Lib.hid hc9
          clear h5 hc9
          obtain ⟨A9, c9, rfl⟩ := r_m.shape
          go_wp2_with fail
          have H := to_below (sameLists_any _ _ _ _ _ r_l r_m rfl)
          refine H.mono ?_; clear H; rintro e w17 ⟨rfl, b⟩
          have B17 := below_then B16 b
          replace r_d := r_d.below b
          replace r_l := r_l.below b
          replace r_m := r_m.below b
          clear B16 b
          clear r_l
          clear r_m
          go_wp2_with fail
          have H := implCatalan_any n9 hn9 w17
          rw [← HC9.out] at H
          refine H.mono ?_; clear H; rintro e w18 ⟨rfl, b⟩
          have B18 := below_then B17 b
          replace r_d := r_d.below b
          clear B17 b
          go_wp2_with fail
          have H := implIsPermutation_any _ _ _ r_d
          refine H.mono ?_; clear H; rintro e w19 ⟨rfl, b⟩
          have B19 := below_then B18 b
          replace r_d := r_d.below b
          clear B18 b
          go_wp2_with fail
          have H := to_below (specIsPermutation_any _ _ _ r_d)
          refine H.mono ?_; clear H; rintro e w20 ⟨rfl, b⟩
          have B20 := below_then B19 b
          replace r_d := r_d.below b
          clear B19 b
          go_wp2_with fail
          have H := implContains231_any _ _ _ r_d
          refine H.mono ?_; clear H; rintro e w21 ⟨rfl, b⟩
          have B21 := below_then B20 b
          replace r_d := r_d.below b
          clear B20 b
          go_wp2_with fail
          have H := to_below (specContains231_any _ _ _ r_d)
          refine H.mono ?_; clear H; rintro e w22 ⟨rfl, b⟩
          have B22 := below_then B21 b
          replace r_d := r_d.below b
          clear B21 b
          go_wp2_with fail
          have H := implContains321_any _ _ _ r_d
          refine H.mono ?_; clear H; rintro e w23 ⟨rfl, b⟩
          have B23 := below_then B22 b
          replace r_d := r_d.below b
          clear B22 b
          go_wp2_with fail
          have H := to_below (specContains321_any _ _ _ r_d)
          refine H.mono ?_; clear H; rintro e w24 ⟨rfl, b⟩
          have B24 := below_then B23 b
          replace r_d := r_d.below b
          clear B23 b
          go_wp2_with fail
          have H := implInversionsOf_any _ _ _ r_d
          refine H.mono ?_; clear H; rintro e w25 ⟨rfl, b⟩
          have B25 := below_then B24 b
          replace r_d := r_d.below b
          clear B24 b
          go_wp2_with fail
          have H := to_below (specInversionsOf_any _ _ _ r_d)
          refine H.mono ?_; clear H; rintro e w26 ⟨rfl, b⟩
          have B26 := below_then B25 b
          replace r_d := r_d.below b
          clear B25 b
          go_wp2_with fail
          have H := implDescentsOf_any _ _ _ r_d
          refine H.mono ?_; clear H; rintro e w27 ⟨rfl, b⟩
          have B27 := below_then B26 b
          replace r_d := r_d.below b
          clear B26 b
          go_wp2_with fail
          have H := to_below (specDescentsOf_any _ _ _ r_d)
          refine H.mono ?_; clear H; rintro e w28 ⟨rfl, b⟩
          have B28 := below_then B27 b
          replace r_d := r_d.below b
          clear B27 b
          go_wp2_with fail
          go_ret
          exact ⟨rfl, B28⟩
        · rw [Bool.eq_false_iff.2 h5]
          clear h5
          go_wp2_with fail
          have H := to_below (sameLists_any _ _ _ _ _ r_l r_m rfl)
          refine H.mono ?_; clear H; rintro e w17 ⟨rfl, b⟩
          have B17 := below_then B16 b
          replace r_d := r_d.below b
          replace r_l := r_l.below b
          replace r_m := r_m.below b
          clear B16 b
          go_wp2_with fail
          clear r_l
          clear r_m
          have H := implIsPermutation_any _ _ _ r_d
          refine H.mono ?_; clear H; rintro e w18 ⟨rfl, b⟩
          have B18 := below_then B17 b
          replace r_d := r_d.below b
          clear B17 b
          go_wp2_with fail
          have H := to_below (specIsPermutation_any _ _ _ r_d)
          refine H.mono ?_; clear H; rintro e w19 ⟨rfl, b⟩
          have B19 := below_then B18 b
          replace r_d := r_d.below b
          clear B18 b
          go_wp2_with fail
          have H := implContains231_any _ _ _ r_d
          refine H.mono ?_; clear H; rintro e w20 ⟨rfl, b⟩
          have B20 := below_then B19 b
          replace r_d := r_d.below b
          clear B19 b
          go_wp2_with fail
          have H := to_below (specContains231_any _ _ _ r_d)
          refine H.mono ?_; clear H; rintro e w21 ⟨rfl, b⟩
          have B21 := below_then B20 b
          replace r_d := r_d.below b
          clear B20 b
          go_wp2_with fail
          have H := implContains321_any _ _ _ r_d
          refine H.mono ?_; clear H; rintro e w22 ⟨rfl, b⟩
          have B22 := below_then B21 b
          replace r_d := r_d.below b
          clear B21 b
          go_wp2_with fail
          have H := to_below (specContains321_any _ _ _ r_d)
          refine H.mono ?_; clear H; rintro e w23 ⟨rfl, b⟩
          have B23 := below_then B22 b
          replace r_d := r_d.below b
          clear B22 b
          go_wp2_with fail
          have H := implInversionsOf_any _ _ _ r_d
          refine H.mono ?_; clear H; rintro e w24 ⟨rfl, b⟩
          have B24 := below_then B23 b
          replace r_d := r_d.below b
          clear B23 b
          go_wp2_with fail
          have H := to_below (specInversionsOf_any _ _ _ r_d)
          refine H.mono ?_; clear H; rintro e w25 ⟨rfl, b⟩
          have B25 := below_then B24 b
          replace r_d := r_d.below b
          clear B24 b
          go_wp2_with fail
          have H := implDescentsOf_any _ _ _ r_d
          refine H.mono ?_; clear H; rintro e w26 ⟨rfl, b⟩
          have B26 := below_then B25 b
          replace r_d := r_d.below b
          clear B25 b
          go_wp2_with fail
          have H := to_below (specDescentsOf_any _ _ _ r_d)
          refine H.mono ?_; clear H; rintro e w27 ⟨rfl, b⟩
          have B27 := below_then B26 b
          replace r_d := r_d.below b
          clear B26 b
          go_wp2_with fail
          go_ret
          exact ⟨rfl, B27⟩
    · have HYES : Hid ((poR (L sw)).2 = false) := Lib.hid (by unfold poR; rw [if_neg hD])
      clear hD
      go_wp2_with fail
      have H := to_below (sameInts_any _ _ _ _ _ r_P r_Q)
      rw [decide_eq_true (rfl : (poR (L sw)).1 = (poR (L sw)).1)] at H
      refine H.mono ?_; clear H; rintro e w4 ⟨rfl, b⟩
      have B4 := below_then B3 b
      replace r_code := r_code.below b
      replace r_P := r_P.below b
      replace r_Q := r_Q.below b
      clear B3 b
      clear r_P
      clear r_Q
      rw [HYES.out]
      go_wp2_with fail
      have H := DrawInverseOf_any v bs w4 r_code
      refine H.mono ?_; clear H; rintro e w5 ⟨ra, xa, rfl, r_a, pa, b⟩
      have B5 := below_then B4 b
      replace r_code := r_code.below b
      clear B4 b
      obtain ⟨Aa, ca, rfl⟩ := r_a.shape
      go_wp2_with fail
      have H := implInverseOf_any _ _ _ r_a
      refine H.mono ?_; clear H; rintro e w6 ⟨rb, rfl, ob, b⟩
      have B6 := below_then B5 b
      replace r_code := r_code.below b
      replace r_a := r_a.below b
      clear B5 b
      have r_b := ob.rd
      clear ob
      go_wp2_with fail
      have H := specInverseOf_any _ _ _ r_a
      refine H.mono ?_; clear H; rintro e w7 ⟨rc, rfl, oc, b⟩
      have B7 := below_then B6 b
      replace r_code := r_code.below b
      replace r_a := r_a.below b
      replace r_b := r_b.below b
      clear B6 b
      have r_c := oc.rd
      clear oc
      by_cases hA : PermP xa
      · obtain ⟨n1, n2⟩ := perm_facts hA pa
        have HN1 := Lib.hid n1
        have HN2 := Lib.hid n2
        rw [show (invR xa).2 = true from by rw [invR_yes, decide_eq_true hA]]
        clear hA n1 n2
        go_wp2_with fail
        have H := to_below (sameInts_any _ _ _ _ _ r_b r_c)
        rw [decide_eq_true (rfl : (invR xa).1 = (invR xa).1)] at H
        refine H.mono ?_; clear H; rintro e w8 ⟨rfl, b⟩
        have B8 := below_then B7 b
        replace r_code := r_code.below b
        replace r_a := r_a.below b
        replace r_b := r_b.below b
        replace r_c := r_c.below b
        clear B7 b
        go_wp2_with fail
        clear r_b
        have H := implInversionsOf_any _ _ _ r_c
        rw [HN1.out] at H
        refine H.mono ?_; clear H; rintro e w9 ⟨rfl, b⟩
        have B9 := below_then B8 b
        replace r_code := r_code.below b
        replace r_a := r_a.below b
        replace r_c := r_c.below b
        clear B8 b
        go_wp2_with fail
        have H := implInversionsOf_any _ _ _ r_a
        refine H.mono ?_; clear H; rintro e w10 ⟨rfl, b⟩
        have B10 := below_then B9 b
        replace r_code := r_code.below b
        replace r_a := r_a.below b
        replace r_c := r_c.below b
        clear B9 b
        go_wp2_with fail
        have H := implContains321_any _ _ _ r_c
        rw [HN2.out] at H
        refine H.mono ?_; clear H; rintro e w11 ⟨rfl, b⟩
        have B11 := below_then B10 b
        replace r_code := r_code.below b
        replace r_a := r_a.below b
        replace r_c := r_c.below b
        clear B10 b
        go_wp2_with fail
        have H := implContains321_any _ _ _ r_a
        refine H.mono ?_; clear H; rintro e w12 ⟨rfl, b⟩
        have B12 := below_then B11 b
        replace r_code := r_code.below b
        replace r_a := r_a.below b
        replace r_c := r_c.below b
        clear B11 b
        go_wp2_with fail
        clear r_a
        clear r_c
        have H := DrawPathOfPermutation_any v bs w12 r_code
        refine H.mono ?_; clear H; rintro e w13 ⟨rd, xd, rfl, r_d, pd, b⟩
        have B13 := below_then B12 b
        replace r_code := r_code.below b
        clear B12 b
        obtain ⟨Ad, cd, rfl⟩ := r_d.shape
        go_wp2_with fail
        have H := implPathOfPermutation_any _ _ _ r_d
        refine H.mono ?_; clear H; rintro e w14 ⟨rfl, b⟩
        have B14 := below_then B13 b
        replace r_code := r_code.below b
        replace r_d := r_d.below b
        clear B13 b
        go_wp2_with fail
        have H := specPathOfPermutation_any _ _ _ r_d
        refine H.mono ?_; clear H; rintro e w15 ⟨rfl, b⟩
        have B15 := below_then B14 b
        replace r_code := r_code.below b
        replace r_d := r_d.below b
        clear B14 b
        go_wp2_with fail
        have H := DrawAvoiders_any v bs w15 r_code
        refine H.mono ?_; clear H; rintro e w16 ⟨N9, p9, rfl, hp9, b⟩
        have B16 := below_then B15 b
        replace r_code := r_code.below b
        replace r_d := r_d.below b
        clear B15 b
        go_wp2_with fail
        clear r_code
        have hp9' : p9.size ≤ 1099511627776 := by omega
        have H := implAvoiders_any N9 p9 w16 hp9'
        refine H.mono ?_; clear H; rintro e w17 ⟨rl, rfl, ol, b⟩
        have B17 := below_then B16 b
        replace r_d := r_d.below b
        clear B16 b
        have r_l := ol.rd
        clear ol
        go_wp2_with fail
        have H := specAvoiders_any N9 p9 w17 hp9'
        refine H.mono ?_; clear H; rintro e w18 ⟨rm, rfl, om, b⟩
        have B18 := below_then B17 b
        replace r_d := r_d.below b
        replace r_l := r_l.below b
        clear B17 b
        have r_m := om.rd
        clear om
        by_cases h5 : (avR N9 p9.toList).2 = true
        · obtain ⟨n9, hn9, rfl, hc9⟩ := av_count h5
          rw [h5]
          have HC9 := Lib.hid hc9
          clear h5 hc9
          obtain ⟨A9, c9, rfl⟩ := r_m.shape
          go_wp2_with fail
          have H := to_below (sameLists_any _ _ _ _ _ r_l r_m rfl)
          refine H.mono ?_; clear H; rintro e w19 ⟨rfl, b⟩
          have B19 := below_then B18 b
          replace r_d := r_d.below b
          replace r_l := r_l.below b
          replace r_m := r_m.below b
          clear B18 b
          clear r_l
          clear r_m
          go_wp2_with fail
          have H := implCatalan_any n9 hn9 w19
          rw [← HC9.out] at H
          refine H.mono ?_; clear H; rintro e w20 ⟨rfl, b⟩
          have B20 := below_then B19 b
          replace r_d := r_d.below b
          clear B19 b
          go_wp2_with fail
          have H := implIsPermutation_any _ _ _ r_d
          refine H.mono ?_; clear H; rintro e w21 ⟨rfl, b⟩
          have B21 := below_then B20 b
          replace r_d := r_d.below b
          clear B20 b
          go_wp2_with fail
          have H := to_below (specIsPermutation_any _ _ _ r_d)
          refine H.mono ?_; clear H; rintro e w22 ⟨rfl, b⟩
          have B22 := below_then B21 b
          replace r_d := r_d.below b
          clear B21 b
          go_wp2_with fail
          have H := implContains231_any _ _ _ r_d
          refine H.mono ?_; clear H; rintro e w23 ⟨rfl, b⟩
          have B23 := below_then B22 b
          replace r_d := r_d.below b
          clear B22 b
          go_wp2_with fail
          have H := to_below (specContains231_any _ _ _ r_d)
          refine H.mono ?_; clear H; rintro e w24 ⟨rfl, b⟩
          have B24 := below_then B23 b
          replace r_d := r_d.below b
          clear B23 b
          go_wp2_with fail
          have H := implContains321_any _ _ _ r_d
          refine H.mono ?_; clear H; rintro e w25 ⟨rfl, b⟩
          have B25 := below_then B24 b
          replace r_d := r_d.below b
          clear B24 b
          go_wp2_with fail
          have H := to_below (specContains321_any _ _ _ r_d)
          refine H.mono ?_; clear H; rintro e w26 ⟨rfl, b⟩
          have B26 := below_then B25 b
          replace r_d := r_d.below b
          clear B25 b
          go_wp2_with fail
          have H := implInversionsOf_any _ _ _ r_d
          refine H.mono ?_; clear H; rintro e w27 ⟨rfl, b⟩
          have B27 := below_then B26 b
          replace r_d := r_d.below b
          clear B26 b
          go_wp2_with fail
          have H := to_below (specInversionsOf_any _ _ _ r_d)
          refine H.mono ?_; clear H; rintro e w28 ⟨rfl, b⟩
          have B28 := below_then B27 b
          replace r_d := r_d.below b
          clear B27 b
          go_wp2_with fail
          have H := implDescentsOf_any _ _ _ r_d
          refine H.mono ?_; clear H; rintro e w29 ⟨rfl, b⟩
          have B29 := below_then B28 b
          replace r_d := r_d.below b
          clear B28 b
          go_wp2_with fail
          have H := to_below (specDescentsOf_any _ _ _ r_d)
          refine H.mono ?_; clear H; rintro e w30 ⟨rfl, b⟩
          have B30 := below_then B29 b
          replace r_d := r_d.below b
          clear B29 b
          go_wp2_with fail
          go_ret
          exact ⟨rfl, B30⟩
        · rw [Bool.eq_false_iff.2 h5]
          clear h5
          go_wp2_with fail
          have H := to_below (sameLists_any _ _ _ _ _ r_l r_m rfl)
          refine H.mono ?_; clear H; rintro e w19 ⟨rfl, b⟩
          have B19 := below_then B18 b
          replace r_d := r_d.below b
          replace r_l := r_l.below b
          replace r_m := r_m.below b
          clear B18 b
          go_wp2_with fail
          clear r_l
          clear r_m
          have H := implIsPermutation_any _ _ _ r_d
          refine H.mono ?_; clear H; rintro e w20 ⟨rfl, b⟩
          have B20 := below_then B19 b
          replace r_d := r_d.below b
          clear B19 b
          go_wp2_with fail
          have H := to_below (specIsPermutation_any _ _ _ r_d)
          refine H.mono ?_; clear H; rintro e w21 ⟨rfl, b⟩
          have B21 := below_then B20 b
          replace r_d := r_d.below b
          clear B20 b
          go_wp2_with fail
          have H := implContains231_any _ _ _ r_d
          refine H.mono ?_; clear H; rintro e w22 ⟨rfl, b⟩
          have B22 := below_then B21 b
          replace r_d := r_d.below b
          clear B21 b
          go_wp2_with fail
          have H := to_below (specContains231_any _ _ _ r_d)
          refine H.mono ?_; clear H; rintro e w23 ⟨rfl, b⟩
          have B23 := below_then B22 b
          replace r_d := r_d.below b
          clear B22 b
          go_wp2_with fail
          have H := implContains321_any _ _ _ r_d
          refine H.mono ?_; clear H; rintro e w24 ⟨rfl, b⟩
          have B24 := below_then B23 b
          replace r_d := r_d.below b
          clear B23 b
          go_wp2_with fail
          have H := to_below (specContains321_any _ _ _ r_d)
          refine H.mono ?_; clear H; rintro e w25 ⟨rfl, b⟩
          have B25 := below_then B24 b
          replace r_d := r_d.below b
          clear B24 b
          go_wp2_with fail
          have H := implInversionsOf_any _ _ _ r_d
          refine H.mono ?_; clear H; rintro e w26 ⟨rfl, b⟩
          have B26 := below_then B25 b
          replace r_d := r_d.below b
          clear B25 b
          go_wp2_with fail
          have H := to_below (specInversionsOf_any _ _ _ r_d)
          refine H.mono ?_; clear H; rintro e w27 ⟨rfl, b⟩
          have B27 := below_then B26 b
          replace r_d := r_d.below b
          clear B26 b
          go_wp2_with fail
          have H := implDescentsOf_any _ _ _ r_d
          refine H.mono ?_; clear H; rintro e w28 ⟨rfl, b⟩
          have B28 := below_then B27 b
          replace r_d := r_d.below b
          clear B27 b
          go_wp2_with fail
          have H := to_below (specDescentsOf_any _ _ _ r_d)
          refine H.mono ?_; clear H; rintro e w29 ⟨rfl, b⟩
          have B29 := below_then B28 b
          replace r_d := r_d.below b
          clear B28 b
          go_wp2_with fail
          go_ret
          exact ⟨rfl, B29⟩
      · rw [show (invR xa).2 = false from by rw [invR_yes, decide_eq_false hA]]
        clear hA
        go_wp2_with fail
        have H := to_below (sameInts_any _ _ _ _ _ r_b r_c)
        rw [decide_eq_true (rfl : (invR xa).1 = (invR xa).1)] at H
        refine H.mono ?_; clear H; rintro e w8 ⟨rfl, b⟩
        have B8 := below_then B7 b
        replace r_code := r_code.below b
        replace r_a := r_a.below b
        replace r_b := r_b.below b
        replace r_c := r_c.below b
        clear B7 b
        go_wp2_with fail
        clear r_a
        clear r_b
        clear r_c
        have H := DrawPathOfPermutation_any v bs w8 r_code
        refine H.mono ?_; clear H; rintro e w9 ⟨rd, xd, rfl, r_d, pd, b⟩
        have B9 := below_then B8 b
        replace r_code := r_code.below b
        clear B8 b
        obtain ⟨Ad, cd, rfl⟩ := r_d.shape
        go_wp2_with fail
        have H := implPathOfPermutation_any _ _ _ r_d
        refine H.mono ?_; clear H; rintro e w10 ⟨rfl, b⟩
        have B10 := below_then B9 b
        replace r_code := r_code.below b
        replace r_d := r_d.below b
        clear B9 b
        go_wp2_with fail
        have H := specPathOfPermutation_any _ _ _ r_d
        refine H.mono ?_; clear H; rintro e w11 ⟨rfl, b⟩
        have B11 := below_then B10 b
        replace r_code := r_code.below b
        replace r_d := r_d.below b
        clear B10 b
        go_wp2_with fail
        have H := DrawAvoiders_any v bs w11 r_code
        refine H.mono ?_; clear H; rintro e w12 ⟨N9, p9, rfl, hp9, b⟩
        have B12 := below_then B11 b
        replace r_code := r_code.below b
        replace r_d := r_d.below b
        clear B11 b
        go_wp2_with fail
        clear r_code
        have hp9' : p9.size ≤ 1099511627776 := by omega
        have H := implAvoiders_any N9 p9 w12 hp9'
        refine H.mono ?_; clear H; rintro e w13 ⟨rl, rfl, ol, b⟩
        have B13 := below_then B12 b
        replace r_d := r_d.below b
        clear B12 b
        have r_l := ol.rd
        clear ol
        go_wp2_with fail
        have H := specAvoiders_any N9 p9 w13 hp9'
        refine H.mono ?_; clear H; rintro e w14 ⟨rm, rfl, om, b⟩
        have B14 := below_then B13 b
        replace r_d := r_d.below b
        replace r_l := r_l.below b
        clear B13 b
        have r_m := om.rd
        clear om
        by_cases h5 : (avR N9 p9.toList).2 = true
        · obtain ⟨n9, hn9, rfl, hc9⟩ := av_count h5
          rw [h5]
          have HC9 := Lib.hid hc9
          clear h5 hc9
          obtain ⟨A9, c9, rfl⟩ := r_m.shape
          go_wp2_with fail
          have H := to_below (sameLists_any _ _ _ _ _ r_l r_m rfl)
          refine H.mono ?_; clear H; rintro e w15 ⟨rfl, b⟩
          have B15 := below_then B14 b
          replace r_d := r_d.below b
          replace r_l := r_l.below b
          replace r_m := r_m.below b
          clear B14 b
          clear r_l
          clear r_m
          go_wp2_with fail
          have H := implCatalan_any n9 hn9 w15
          rw [← HC9.out] at H
          refine H.mono ?_; clear H; rintro e w16 ⟨rfl, b⟩
          have B16 := below_then B15 b
          replace r_d := r_d.below b
          clear B15 b
          go_wp2_with fail
          have H := implIsPermutation_any _ _ _ r_d
          refine H.mono ?_; clear H; rintro e w17 ⟨rfl, b⟩
          have B17 := below_then B16 b
          replace r_d := r_d.below b
          clear B16 b
          go_wp2_with fail
          have H := to_below (specIsPermutation_any _ _ _ r_d)
          refine H.mono ?_; clear H; rintro e w18 ⟨rfl, b⟩
          have B18 := below_then B17 b
          replace r_d := r_d.below b
          clear B17 b
          go_wp2_with fail
          have H := implContains231_any _ _ _ r_d
          refine H.mono ?_; clear H; rintro e w19 ⟨rfl, b⟩
          have B19 := below_then B18 b
          replace r_d := r_d.below b
          clear B18 b
          go_wp2_with fail
          have H := to_below (specContains231_any _ _ _ r_d)
          refine H.mono ?_; clear H; rintro e w20 ⟨rfl, b⟩
          have B20 := below_then B19 b
          replace r_d := r_d.below b
          clear B19 b
          go_wp2_with fail
          have H := implContains321_any _ _ _ r_d
          refine H.mono ?_; clear H; rintro e w21 ⟨rfl, b⟩
          have B21 := below_then B20 b
          replace r_d := r_d.below b
          clear B20 b
          go_wp2_with fail
          have H := to_below (specContains321_any _ _ _ r_d)
          refine H.mono ?_; clear H; rintro e w22 ⟨rfl, b⟩
          have B22 := below_then B21 b
          replace r_d := r_d.below b
          clear B21 b
          go_wp2_with fail
          have H := implInversionsOf_any _ _ _ r_d
          refine H.mono ?_; clear H; rintro e w23 ⟨rfl, b⟩
          have B23 := below_then B22 b
          replace r_d := r_d.below b
          clear B22 b
          go_wp2_with fail
          have H := to_below (specInversionsOf_any _ _ _ r_d)
          refine H.mono ?_; clear H; rintro e w24 ⟨rfl, b⟩
          have B24 := below_then B23 b
          replace r_d := r_d.below b
          clear B23 b
          go_wp2_with fail
          have H := implDescentsOf_any _ _ _ r_d
          refine H.mono ?_; clear H; rintro e w25 ⟨rfl, b⟩
          have B25 := below_then B24 b
          replace r_d := r_d.below b
          clear B24 b
          go_wp2_with fail
          have H := to_below (specDescentsOf_any _ _ _ r_d)
          refine H.mono ?_; clear H; rintro e w26 ⟨rfl, b⟩
          have B26 := below_then B25 b
          replace r_d := r_d.below b
          clear B25 b
          go_wp2_with fail
          go_ret
          exact ⟨rfl, B26⟩
        · rw [Bool.eq_false_iff.2 h5]
          clear h5
          go_wp2_with fail
          have H := to_below (sameLists_any _ _ _ _ _ r_l r_m rfl)
          refine H.mono ?_; clear H; rintro e w15 ⟨rfl, b⟩
          have B15 := below_then B14 b
          replace r_d := r_d.below b
          replace r_l := r_l.below b
          replace r_m := r_m.below b
          clear B14 b
          go_wp2_with fail
          clear r_l
          clear r_m
          have H := implIsPermutation_any _ _ _ r_d
          refine H.mono ?_; clear H; rintro e w16 ⟨rfl, b⟩
          have B16 := below_then B15 b
          replace r_d := r_d.below b
          clear B15 b
          go_wp2_with fail
          have H := to_below (specIsPermutation_any _ _ _ r_d)
          refine H.mono ?_; clear H; rintro e w17 ⟨rfl, b⟩
          have B17 := below_then B16 b
          replace r_d := r_d.below b
          clear B16 b
          go_wp2_with fail
          have H := implContains231_any _ _ _ r_d
          refine H.mono ?_; clear H; rintro e w18 ⟨rfl, b⟩
          have B18 := below_then B17 b
          replace r_d := r_d.below b
          clear B17 b
          go_wp2_with fail
          have H := to_below (specContains231_any _ _ _ r_d)
          refine H.mono ?_; clear H; rintro e w19 ⟨rfl, b⟩
          have B19 := below_then B18 b
          replace r_d := r_d.below b
          clear B18 b
          go_wp2_with fail
          have H := implContains321_any _ _ _ r_d
          refine H.mono ?_; clear H; rintro e w20 ⟨rfl, b⟩
          have B20 := below_then B19 b
          replace r_d := r_d.below b
          clear B19 b
          go_wp2_with fail
          have H := to_below (specContains321_any _ _ _ r_d)
          refine H.mono ?_; clear H; rintro e w21 ⟨rfl, b⟩
          have B21 := below_then B20 b
          replace r_d := r_d.below b
          clear B20 b
          go_wp2_with fail
          have H := implInversionsOf_any _ _ _ r_d
          refine H.mono ?_; clear H; rintro e w22 ⟨rfl, b⟩
          have B22 := below_then B21 b
          replace r_d := r_d.below b
          clear B21 b
          go_wp2_with fail
          have H := to_below (specInversionsOf_any _ _ _ r_d)
          refine H.mono ?_; clear H; rintro e w23 ⟨rfl, b⟩
          have B23 := below_then B22 b
          replace r_d := r_d.below b
          clear B22 b
          go_wp2_with fail
          have H := implDescentsOf_any _ _ _ r_d
          refine H.mono ?_; clear H; rintro e w24 ⟨rfl, b⟩
          have B24 := below_then B23 b
          replace r_d := r_d.below b
          clear B23 b
          go_wp2_with fail
          have H := to_below (specDescentsOf_any _ _ _ r_d)
          refine H.mono ?_; clear H; rintro e w25 ⟨rfl, b⟩
          have B25 := below_then B24 b
          replace r_d := r_d.below b
          clear B24 b
          go_wp2_with fail
          go_ret
          exact ⟨rfl, B25⟩

set_option maxRecDepth 100000 in
theorem lifted (os : Os) (started : os.Started) (H : Type) (enc : TypeId × Value → H) :
    ReturnsInHanded {} Try.checked os 7 .any (Rows.fnPermutationsSpec.pre6 enc Try.prog Try.f7 Rows.fnPermutationsRow.domain false) (Rows.fnPermutationsSpec.post enc Try.prog Try.f7 false true false false) := by
  refine returnsInHanded_of_change (C := Try.checked) own started (by kernel_rfl) Try.func7
    (ChangeSpec.witness6 (enc := enc) (C := Try.checked) false ⟨#[], #[.slice none 0 0], []⟩ 8 (by kernel_rfl) (by kernel_rfl) (by kernel_rfl) (by kernel_rfl)) ?_
  intro W base args ds gs before hval0 hW hcnd _
  have hval : ∀ (j : Nat) t v, Try.f7.params[j]? = some t → args[j]? = some v → Value.okWide Try.prog W .any base t v := hval0
  have hW' := hW
  obtain ⟨p, q, hA0, hV, rfl, hfz, hnd⟩ := hW
  have hA : DataW.TrodAll enc Try.prog W 0 (fun _ => true) true Try.f7.params.toList args.toList ds p := hA0
  rw [Try.params7] at hA hval
  obtain ⟨v0, vs0, d0, ds0, p0, q0, hargs, rfl, rfl, h0, r0⟩ := trodAll_cons hA
  obtain ⟨rfl, rfl, rfl⟩ := trodAll_nil r0
  obtain rfl : args = #[v0] := by cases args; simp_all
  obtain ⟨rfl, rfl⟩ := trodVars_none hV
  obtain ⟨a0, len0, cap0, rfl⟩ := okWide_slice Try.underlying31 (hval 0 31 v0 rfl rfl)
  have k0 := h0
  have lt0 : ∀ x ∈ p0, x.block < W.heap.size := by obtain ⟨m, hm⟩ := k0; exact DataW.trod_lt m _ _ _ hm
  obtain ⟨z0, w0⟩ : ∃ zs, ArgB W (.slice a0 len0 cap0) zs := by
    obtain ⟨fuel, hf⟩ := h0
    rcases open_ints Try.underlying31 Try.underlying5 (by kernel_rfl) hf with ⟨hcs, _⟩ | ⟨x, l, c, zs, hcs, _, hl, hm, hz, _, hcell, hwz⟩
    · simp [Value.cells] at hcs
      obtain ⟨rfl, rfl, rfl⟩ := hcs
      exact ⟨[], ArgB.nil_ _⟩
    · simp [Value.cells] at hcs
      obtain ⟨rfl, rfl, rfl⟩ := hcs
      exact ⟨_, ArgB.of_row hl hm (by simpa using hz) hcell hwz⟩
  clear hA0 hval0
  refine (walk W (.slice a0 len0 cap0) z0 w0).mono fun e W' ⟨he, bel⟩ => ?_
  subst he
  exact ⟨_, rfl, _, _, _, [], _, [], hW', trodAll_mk1 (shut_bool Try.underlying4 _), (trodAll_cons_mk (Below.trod laidOut (by kernel_rfl) (of_decide_eq_true (by kernel_rfl)) k0 bel lt0) trodAll_mk0), rfl, bel.frame _, fun h => by cases h⟩

theorem over : Rows.fnPermutationsRow.holds Try.pinned (OpenSpec.ofChange Rows.fnPermutationsSpec) :=
  OpenClaim.holds_of_wide 7 Try.f7 rfl rfl rfl rfl rfl rfl rfl ⟨rfl, rfl, rfl, rfl, rfl⟩ rfl rfl rfl rfl rfl (by kernel_rfl) Try.func7 (by kernel_rfl)
    (of_decide_eq_true (by kernel_rfl)) (by unfold Func.isWrapper; first | (rw [if_pos (by decide +kernel)]; kernel_rfl) | (rw [if_neg (by decide +kernel)]; exact ⟨rfl, rfl⟩))
    (fun os started H enc _ => lifted os started H enc)

/-- the statement -/
theorem proved : Rows.FnPermutationsSaid := over
#print axioms proved
end Go.Proofs.Ytnkkgfeegaiakaa.permutations
