/- The law FnMatchings returns true at every code: matchings without crossings and paths correspond, nested arcs are the area, and turns keep the crossings. No condition. -/
import Derived.Test.YtnkkgfeegaiakaaGround
import Derived.Test.YtnkkgfeegaiakaaFnWords
import Derived.Test.YtnkkgfeegaiakaaDrawMatch
import Derived.Test.YtnkkgfeegaiakaaDrawPart
import Derived.Test.YtnkkgfeegaiakaaDrawTxt
import Derived.Test.YtnkkgfeegaiakaaPlain31
import Derived.Test.YtnkkgfeegaiakaaTestC
import Derived.Test.YtnkkgfeegaiakaaMatchOf
import Derived.Test.YtnkkgfeegaiakaaMatchStat
import Derived.Test.YtnkkgfeegaiakaaMatchTurn
import Derived.Test.YtnkkgfeegaiakaaMatchPath
import Derived.Test.YtnkkgfeegaiakaaMatchPart
import Derived.Test.YtnkkgfeegaiakaaMatchFormat
import Derived.Test.YtnkkgfeegaiakaaMatch
import Derived.Test.YtnkkgfeegaiakaaPathStat2
namespace Go.Proofs.Ytnkkgfeegaiakaa.matchings
open Go.ChangeShapes Go.WideShapes Go.ChangeAt Go.RowKit
open Go.ChangeMaps (open_string shut_string)
set_option maxRecDepth 8000 in
set_option maxHeartbeats 40000000 in
theorem walk (w : World) (v : Value) (bs : List UInt8) (h : ArgB w v bs) :
    Calls Try.prog 9 #[v] w fun e w' => e = .returned (.bool true) ∧ Below w.heap.size w w' := by
  have HB := big_any v bs w h
  by_cases hbig : 1048576 < bs.length
  · rw [decide_eq_true hbig] at HB
    go_enter Try.func9, Try.ntmps9
    go_wp2_with fail
    refine HB.mono ?_; rintro e w1 ⟨rfl, rfl⟩
    go_wp2_with fail
    go_ret
    exact ⟨rfl, Below.refl _ _⟩
  · rw [decide_eq_false hbig] at HB
    have r_code : RdR bf w v bs := by
      obtain ⟨A, c, rfl, _, hr⟩ := h
      exact hr (by omega)
    have B0 := Below.refl w.heap.size w
    clear hbig h
    go_enter Try.func9, Try.ntmps9
    go_wp2_with fail
    refine HB.mono ?_; clear HB; rintro e w1 ⟨rfl, rfl⟩
    go_wp2_with fail
    have H := DrawMatchingOf_any v bs w r_code
    refine H.mono ?_; clear H; rintro e w1 ⟨sw, rfl, pw, b⟩
    have B1 := below_then B0 b
    replace r_code := r_code.below b
    clear B0 b
    have hsw := pw.le
    go_wp2_with fail
    have H := implMatchingOf_any sw w1 hsw
    refine H.mono ?_; clear H; rintro e w2 ⟨rP, rfl, oP, b⟩
    have B2 := below_then B1 b
    replace r_code := r_code.below b
    clear B1 b
    have r_P := oP.rd
    clear oP
    go_wp2_with fail
    have H := specMatchingOf_any sw w2 hsw
    refine H.mono ?_; clear H; rintro e w3 ⟨rQ, rfl, oQ, b⟩
    have B3 := below_then B2 b
    replace r_code := r_code.below b
    replace r_P := r_P.below b
    clear B2 b
    have r_Q := oQ.rd
    clear oQ
    by_cases hD : DyckP (L sw)
    · obtain ⟨n1, n2, n3⟩ := path_match (L_short pw hD) hD
      have HYES : Hid ((mofR (L sw)).2 = true) := Lib.hid (by unfold mofR; rw [if_pos hD])
      have HPP := Lib.hid n1
      have HN2 := Lib.hid n2
      have HN3 := Lib.hid n3
      clear hD n1 n2 n3
      rw [HYES.out]
      go_wp2_with fail
      have H := to_below (sameInts_any _ _ _ _ _ r_P r_Q)
      rw [decide_eq_true (rfl : (mofR (L sw)).1 = (mofR (L sw)).1)] at H
      refine H.mono ?_; clear H; rintro e w4 ⟨rfl, b⟩
      have B4 := below_then B3 b
      replace r_code := r_code.below b
      replace r_P := r_P.below b
      replace r_Q := r_Q.below b
      clear B3 b
      go_wp2_with fail
      clear r_P
      have H := retSB_to (implPathOfMatching_any _ _ _ r_Q) HPP.out (S_L sw)
      refine H.mono ?_; clear H; rintro e w5 ⟨rfl, b⟩
      have B5 := below_then B4 b
      replace r_code := r_code.below b
      replace r_Q := r_Q.below b
      clear B4 b
      go_wp2_with fail
      have H := to_below (implCrossingsOf_any _ _ _ r_Q)
      rw [HN2.out] at H
      refine H.mono ?_; clear H; rintro e w6 ⟨rfl, b⟩
      have B6 := below_then B5 b
      replace r_code := r_code.below b
      replace r_Q := r_Q.below b
      clear B5 b
      go_wp2_with fail
      have H := to_below (implNestingsOf_any _ _ _ r_Q)
      rw [HN3.out] at H
      refine H.mono ?_; clear H; rintro e w7 ⟨rfl, b⟩
      have B7 := below_then B6 b
      replace r_code := r_code.below b
      replace r_Q := r_Q.below b
      clear B6 b
      go_wp2_with fail
      clear r_Q
      have H := implAreaOf_any sw w7
      refine H.mono ?_; clear H; rintro e w8 ⟨rfl, b⟩
      have B8 := below_then B7 b
      replace r_code := r_code.below b
      clear B7 b
      go_wp2_with fail
      have H := DrawTurnMatching_any v bs w8 r_code
      refine H.mono ?_; clear H; rintro e w9 ⟨ra, xa, k9, rfl, r_a, ⟨pa, la⟩, hk9, b⟩
      have B9 := below_then B8 b
      replace r_code := r_code.below b
      clear B8 b
      obtain ⟨Aa, ca, rfl⟩ := r_a.shape
      go_wp2_with fail
      have H := implTurnMatching_any _ _ k9 _ r_a hk9
      refine H.mono ?_; clear H; rintro e w10 ⟨rb, rfl, ob, b⟩
      have B10 := below_then B9 b
      replace r_code := r_code.below b
      replace r_a := r_a.below b
      clear B9 b
      have r_b := ob.rd
      clear ob
      go_wp2_with fail
      have H := specTurnMatching_any _ _ k9 _ r_a hk9
      refine H.mono ?_; clear H; rintro e w11 ⟨rc, rfl, oc, b⟩
      have B11 := below_then B10 b
      replace r_code := r_code.below b
      replace r_a := r_a.below b
      replace r_b := r_b.below b
      clear B10 b
      have r_c := oc.rd
      clear oc
      by_cases hT : (turnR xa k9).2 = true
      · have T := turn_match pa hT
        have HY := Lib.hid (decide_eq_true T.yes)
        have HCX := Lib.hid T.cross
        have HBK := Lib.hid T.back
        have hr := of_decide_eq_true ((turnR_yes xa k9).symm.trans hT)
        rw [hT]
        clear T hT
        go_wp2_with fail
        have H := to_below (sameInts_any _ _ _ _ _ r_b r_c)
        rw [decide_eq_true (rfl : (turnR xa k9).1 = (turnR xa k9).1)] at H
        refine H.mono ?_; clear H; rintro e w12 ⟨rfl, b⟩
        have B12 := below_then B11 b
        replace r_code := r_code.below b
        replace r_a := r_a.below b
        replace r_b := r_b.below b
        replace r_c := r_c.below b
        clear B11 b
        go_wp2_with fail
        clear r_b
        have H := to_below (implIsMatching_any _ _ _ r_c)
        rw [HY.out] at H
        refine H.mono ?_; clear H; rintro e w13 ⟨rfl, b⟩
        have B13 := below_then B12 b
        replace r_code := r_code.below b
        replace r_a := r_a.below b
        replace r_c := r_c.below b
        clear B12 b
        go_wp2_with fail
        have H := to_below (implCrossingsOf_any _ _ _ r_c)
        rw [HCX.out] at H
        refine H.mono ?_; clear H; rintro e w14 ⟨rfl, b⟩
        have B14 := below_then B13 b
        replace r_code := r_code.below b
        replace r_a := r_a.below b
        replace r_c := r_c.below b
        clear B13 b
        go_wp2_with fail
        have H := to_below (implCrossingsOf_any _ _ _ r_a)
        refine H.mono ?_; clear H; rintro e w15 ⟨rfl, b⟩
        have B15 := below_then B14 b
        replace r_code := r_code.below b
        replace r_a := r_a.below b
        replace r_c := r_c.below b
        clear B14 b
        by_cases hp : 0 < xa.length
        · have hpi : (0 : Int) < (xa.length : Int) := by omega
          obtain ⟨t9, ht9⟩ : ∃ t9, t9 = ((xa.length : Int) - k9) % xa.length := ⟨_, rfl⟩
          have hb0 := Int.emod_nonneg ((xa.length : Int) - k9) (b := (xa.length : Int)) (by omega)
          have hb1 := Int.emod_lt_of_pos ((xa.length : Int) - k9) (b := (xa.length : Int)) (by omega)
          rw [← ht9] at hb0 hb1
          have HB9 := HBK.out hp
          rw [← ht9] at HB9
          have HB := Lib.hid HB9
          have hk0 := hr.2
          have ew : IntKind.i64.wrap ((xa.length : Int) - k9) = (xa.length : Int) - k9 := IntWalk.i64_in _ (by omega)
          have et : ((xa.length : Int) - k9).tmod xa.length = t9 := by rw [ht9]; exact Int.tmod_eq_emod_of_nonneg (by omega)
          have hnz : ((xa.length : Int) == 0) = false := beq_eq_false_iff_ne.2 (by omega)
          have ht64 : I64 t9 := by unfold I64; omega
          have HR := Lib.hid hr
          clear ht9 HB9 hr HBK
          go_wp2_with fail
          have H := implTurnMatching_any _ _ t9 _ r_c ht64
          rw [HB.out] at H
          refine H.mono ?_; clear H; rintro e w16 ⟨rg, rfl, og, b⟩
          have B16 := below_then B15 b
          replace r_code := r_code.below b
          replace r_a := r_a.below b
          replace r_c := r_c.below b
          clear B15 b
          have r_g := og.rd
          clear og
          go_wp2_with fail
          clear r_c
          have H := to_below (sameInts_any _ _ _ _ _ r_g r_a)
          rw [decide_eq_true (rfl : xa = xa)] at H
          refine H.mono ?_; clear H; rintro e w17 ⟨rfl, b⟩
          have B17 := below_then B16 b
          replace r_code := r_code.below b
          replace r_a := r_a.below b
          replace r_g := r_g.below b
          clear B16 b
          go_wp2_with fail
          clear r_g
          clear r_a
          have H := DrawMatchingOfPartition_any v bs w17 r_code
          refine H.mono ?_; clear H; rintro e w18 ⟨rp, xp, rfl, r_p, pp, b⟩
          have B18 := below_then B17 b
          replace r_code := r_code.below b
          clear B17 b
          obtain ⟨Ap, cp, rfl⟩ := r_p.shape
          go_wp2_with fail
          have H := implMatchingOfPartition_any _ _ _ r_p
          refine H.mono ?_; clear H; rintro e w19 ⟨rd, rfl, od, b⟩
          have B19 := below_then B18 b
          replace r_code := r_code.below b
          replace r_p := r_p.below b
          clear B18 b
          have r_d := od.rd
          clear od
          go_wp2_with fail
          have H := specMatchingOfPartition_any _ _ _ r_p
          refine H.mono ?_; clear H; rintro e w20 ⟨re, rfl, oe, b⟩
          have B20 := below_then B19 b
          replace r_code := r_code.below b
          replace r_p := r_p.below b
          replace r_d := r_d.below b
          clear B19 b
          have r_e := oe.rd
          clear oe
          clear r_p
          by_cases hP : NonP xp
          · have HCR := Lib.hid (part_match hP pp)
            rw [show (mopR xp).2 = true from by unfold mopR; rw [if_pos hP]]
            clear hP
            go_wp2_with fail
            have H := to_below (sameInts_any _ _ _ _ _ r_d r_e)
            rw [decide_eq_true (rfl : (mopR xp).1 = (mopR xp).1)] at H
            refine H.mono ?_; clear H; rintro e w21 ⟨rfl, b⟩
            have B21 := below_then B20 b
            replace r_code := r_code.below b
            replace r_d := r_d.below b
            replace r_e := r_e.below b
            clear B20 b
            go_wp2_with fail
            clear r_d
            have H := to_below (implIsNoncrossingMatching_any _ _ _ r_e)
            rw [HCR.out] at H
            refine H.mono ?_; clear H; rintro e w22 ⟨rfl, b⟩
            have B22 := below_then B21 b
            replace r_code := r_code.below b
            replace r_e := r_e.below b
            clear B21 b
            go_wp2_with fail
            clear r_e
            have H := DrawIsMatching_any v bs w22 r_code
            refine H.mono ?_; clear H; rintro e w23 ⟨rf, xf, rfl, r_f, pf, b⟩
            have B23 := below_then B22 b
            replace r_code := r_code.below b
            clear B22 b
            obtain ⟨Af, cf, rfl⟩ := r_f.shape
            go_wp2_with fail
            clear r_code
            have H := implPathOfMatching_any _ _ _ r_f
            refine H.mono ?_; clear H; rintro e w24 ⟨rfl, b⟩
            have B24 := below_then B23 b
            replace r_f := r_f.below b
            clear B23 b
            go_wp2_with fail
            have H := specPathOfMatching_any _ _ _ r_f
            refine H.mono ?_; clear H; rintro e w25 ⟨rfl, b⟩
            have B25 := below_then B24 b
            replace r_f := r_f.below b
            clear B24 b
            go_wp2_with fail
            have H := to_below (implIsMatching_any _ _ _ r_f)
            refine H.mono ?_; clear H; rintro e w26 ⟨rfl, b⟩
            have B26 := below_then B25 b
            replace r_f := r_f.below b
            clear B25 b
            go_wp2_with fail
            have H := to_below (specIsMatching_any _ _ _ r_f)
            refine H.mono ?_; clear H; rintro e w27 ⟨rfl, b⟩
            have B27 := below_then B26 b
            replace r_f := r_f.below b
            clear B26 b
            go_wp2_with fail
            have H := to_below (implCrossingsOf_any _ _ _ r_f)
            refine H.mono ?_; clear H; rintro e w28 ⟨rfl, b⟩
            have B28 := below_then B27 b
            replace r_f := r_f.below b
            clear B27 b
            go_wp2_with fail
            have H := to_below (specCrossingsOf_any _ _ _ r_f)
            refine H.mono ?_; clear H; rintro e w29 ⟨rfl, b⟩
            have B29 := below_then B28 b
            replace r_f := r_f.below b
            clear B28 b
            go_wp2_with fail
            have H := to_below (implNestingsOf_any _ _ _ r_f)
            refine H.mono ?_; clear H; rintro e w30 ⟨rfl, b⟩
            have B30 := below_then B29 b
            replace r_f := r_f.below b
            clear B29 b
            go_wp2_with fail
            have H := to_below (specNestingsOf_any _ _ _ r_f)
            refine H.mono ?_; clear H; rintro e w31 ⟨rfl, b⟩
            have B31 := below_then B30 b
            replace r_f := r_f.below b
            clear B30 b
            go_wp2_with fail
            have H := to_below (implIsNoncrossingMatching_any _ _ _ r_f)
            refine H.mono ?_; clear H; rintro e w32 ⟨rfl, b⟩
            have B32 := below_then B31 b
            replace r_f := r_f.below b
            clear B31 b
            go_wp2_with fail
            have H := to_below (specIsNoncrossingMatching_any _ _ _ r_f)
            refine H.mono ?_; clear H; rintro e w33 ⟨rfl, b⟩
            have B33 := below_then B32 b
            replace r_f := r_f.below b
            clear B32 b
            go_wp2_with fail
            have H := implFormatMatching_any _ _ _ r_f
            refine H.mono ?_; clear H; rintro e w34 ⟨rfl, b⟩
            have B34 := below_then B33 b
            replace r_f := r_f.below b
            clear B33 b
            go_wp2_with fail
            have H := specFormatMatching_any _ _ _ r_f
            refine H.mono ?_; clear H; rintro e w35 ⟨rfl, b⟩
            have B35 := below_then B34 b
            replace r_f := r_f.below b
            clear B34 b
            go_wp2_with fail
            go_ret
            exact ⟨rfl, B35⟩
          · rw [show (mopR xp).2 = false from by unfold mopR; rw [if_neg hP]]
            clear hP
            go_wp2_with fail
            have H := to_below (sameInts_any _ _ _ _ _ r_d r_e)
            rw [decide_eq_true (rfl : (mopR xp).1 = (mopR xp).1)] at H
            refine H.mono ?_; clear H; rintro e w21 ⟨rfl, b⟩
            have B21 := below_then B20 b
            replace r_code := r_code.below b
            replace r_d := r_d.below b
            replace r_e := r_e.below b
            clear B20 b
            go_wp2_with fail
            clear r_d
            clear r_e
            have H := DrawIsMatching_any v bs w21 r_code
            refine H.mono ?_; clear H; rintro e w22 ⟨rf, xf, rfl, r_f, pf, b⟩
            have B22 := below_then B21 b
            replace r_code := r_code.below b
            clear B21 b
            obtain ⟨Af, cf, rfl⟩ := r_f.shape
            go_wp2_with fail
            clear r_code
            have H := implPathOfMatching_any _ _ _ r_f
            refine H.mono ?_; clear H; rintro e w23 ⟨rfl, b⟩
            have B23 := below_then B22 b
            replace r_f := r_f.below b
            clear B22 b
            go_wp2_with fail
            have H := specPathOfMatching_any _ _ _ r_f
            refine H.mono ?_; clear H; rintro e w24 ⟨rfl, b⟩
            have B24 := below_then B23 b
            replace r_f := r_f.below b
            clear B23 b
            go_wp2_with fail
            have H := to_below (implIsMatching_any _ _ _ r_f)
            refine H.mono ?_; clear H; rintro e w25 ⟨rfl, b⟩
            have B25 := below_then B24 b
            replace r_f := r_f.below b
            clear B24 b
            go_wp2_with fail
            have H := to_below (specIsMatching_any _ _ _ r_f)
            refine H.mono ?_; clear H; rintro e w26 ⟨rfl, b⟩
            have B26 := below_then B25 b
            replace r_f := r_f.below b
            clear B25 b
            go_wp2_with fail
            have H := to_below (implCrossingsOf_any _ _ _ r_f)
            refine H.mono ?_; clear H; rintro e w27 ⟨rfl, b⟩
            have B27 := below_then B26 b
            replace r_f := r_f.below b
            clear B26 b
            go_wp2_with fail
            have H := to_below (specCrossingsOf_any _ _ _ r_f)
            refine H.mono ?_; clear H; rintro e w28 ⟨rfl, b⟩
            have B28 := below_then B27 b
            replace r_f := r_f.below b
            clear B27 b
            go_wp2_with fail
            have H := to_below (implNestingsOf_any _ _ _ r_f)
            refine H.mono ?_; clear H; rintro e w29 ⟨rfl, b⟩
            have B29 := below_then B28 b
            replace r_f := r_f.below b
            clear B28 b
            go_wp2_with fail
            have H := to_below (specNestingsOf_any _ _ _ r_f)
            refine H.mono ?_; clear H; rintro e w30 ⟨rfl, b⟩
            have B30 := below_then B29 b
            replace r_f := r_f.below b
            clear B29 b
            go_wp2_with fail
            have H := to_below (implIsNoncrossingMatching_any _ _ _ r_f)
            refine H.mono ?_; clear H; rintro e w31 ⟨rfl, b⟩
            have B31 := below_then B30 b
            replace r_f := r_f.below b
            clear B30 b
            go_wp2_with fail
            have H := to_below (specIsNoncrossingMatching_any _ _ _ r_f)
            refine H.mono ?_; clear H; rintro e w32 ⟨rfl, b⟩
            have B32 := below_then B31 b
            replace r_f := r_f.below b
            clear B31 b
            go_wp2_with fail
            have H := implFormatMatching_any _ _ _ r_f
            refine H.mono ?_; clear H; rintro e w33 ⟨rfl, b⟩
            have B33 := below_then B32 b
            replace r_f := r_f.below b
            clear B32 b
            go_wp2_with fail
            have H := specFormatMatching_any _ _ _ r_f
            refine H.mono ?_; clear H; rintro e w34 ⟨rfl, b⟩
            have B34 := below_then B33 b
            replace r_f := r_f.below b
            clear B33 b
            go_wp2_with fail
            go_ret
            exact ⟨rfl, B34⟩
        · have hpi : ¬ (0 : Int) < (xa.length : Int) := by omega
          clear hr HBK
          go_wp2_with fail
          clear r_c
          clear r_a
          have H := DrawMatchingOfPartition_any v bs w15 r_code
          refine H.mono ?_; clear H; rintro e w16 ⟨rp, xp, rfl, r_p, pp, b⟩
          have B16 := below_then B15 b
          replace r_code := r_code.below b
          clear B15 b
          obtain ⟨Ap, cp, rfl⟩ := r_p.shape
          go_wp2_with fail
          have H := implMatchingOfPartition_any _ _ _ r_p
          refine H.mono ?_; clear H; rintro e w17 ⟨rd, rfl, od, b⟩
          have B17 := below_then B16 b
          replace r_code := r_code.below b
          replace r_p := r_p.below b
          clear B16 b
          have r_d := od.rd
          clear od
          go_wp2_with fail
          have H := specMatchingOfPartition_any _ _ _ r_p
          refine H.mono ?_; clear H; rintro e w18 ⟨re, rfl, oe, b⟩
          have B18 := below_then B17 b
          replace r_code := r_code.below b
          replace r_p := r_p.below b
          replace r_d := r_d.below b
          clear B17 b
          have r_e := oe.rd
          clear oe
          clear r_p
          by_cases hP : NonP xp
          · have HCR := Lib.hid (part_match hP pp)
            rw [show (mopR xp).2 = true from by unfold mopR; rw [if_pos hP]]
            clear hP
            go_wp2_with fail
            have H := to_below (sameInts_any _ _ _ _ _ r_d r_e)
            rw [decide_eq_true (rfl : (mopR xp).1 = (mopR xp).1)] at H
            refine H.mono ?_; clear H; rintro e w19 ⟨rfl, b⟩
            have B19 := below_then B18 b
            replace r_code := r_code.below b
            replace r_d := r_d.below b
            replace r_e := r_e.below b
            clear B18 b
            go_wp2_with fail
            clear r_d
            have H := to_below (implIsNoncrossingMatching_any _ _ _ r_e)
            rw [HCR.out] at H
            refine H.mono ?_; clear H; rintro e w20 ⟨rfl, b⟩
            have B20 := below_then B19 b
            replace r_code := r_code.below b
            replace r_e := r_e.below b
            clear B19 b
            go_wp2_with fail
            clear r_e
            have H := DrawIsMatching_any v bs w20 r_code
            refine H.mono ?_; clear H; rintro e w21 ⟨rf, xf, rfl, r_f, pf, b⟩
            have B21 := below_then B20 b
            replace r_code := r_code.below b
            clear B20 b
            obtain ⟨Af, cf, rfl⟩ := r_f.shape
            go_wp2_with fail
            clear r_code
            have H := implPathOfMatching_any _ _ _ r_f
            refine H.mono ?_; clear H; rintro e w22 ⟨rfl, b⟩
            have B22 := below_then B21 b
            replace r_f := r_f.below b
            clear B21 b
            go_wp2_with fail
            have H := specPathOfMatching_any _ _ _ r_f
            refine H.mono ?_; clear H; rintro e w23 ⟨rfl, b⟩
            have B23 := below_then B22 b
            replace r_f := r_f.below b
            clear B22 b
            go_wp2_with fail
            have H := to_below (implIsMatching_any _ _ _ r_f)
            refine H.mono ?_; clear H; rintro e w24 ⟨rfl, b⟩
            have B24 := below_then B23 b
            replace r_f := r_f.below b
            clear B23 b
            go_wp2_with fail
            have H := to_below (specIsMatching_any _ _ _ r_f)
            refine H.mono ?_; clear H; rintro e w25 ⟨rfl, b⟩
            have B25 := below_then B24 b
            replace r_f := r_f.below b
            clear B24 b
            go_wp2_with fail
            have H := to_below (implCrossingsOf_any _ _ _ r_f)
            refine H.mono ?_; clear H; rintro e w26 ⟨rfl, b⟩
            have B26 := below_then B25 b
            replace r_f := r_f.below b
            clear B25 b
            go_wp2_with fail
            have H := to_below (specCrossingsOf_any _ _ _ r_f)
            refine H.mono ?_; clear H; rintro e w27 ⟨rfl, b⟩
            have B27 := below_then B26 b
            replace r_f := r_f.below b
            clear B26 b
            go_wp2_with fail
            have H := to_below (implNestingsOf_any _ _ _ r_f)
            refine H.mono ?_; clear H; rintro e w28 ⟨rfl, b⟩
            have B28 := below_then B27 b
            replace r_f := r_f.below b
            clear B27 b
            go_wp2_with fail
            have H := to_below (specNestingsOf_any _ _ _ r_f)
            refine H.mono ?_; clear H; rintro e w29 ⟨rfl, b⟩
            have B29 := below_then B28 b
            replace r_f := r_f.below b
            clear B28 b
            go_wp2_with fail
            have H := to_below (implIsNoncrossingMatching_any _ _ _ r_f)
            refine H.mono ?_; clear H; rintro e w30 ⟨rfl, b⟩
            have B30 := below_then B29 b
            replace r_f := r_f.below b
            clear B29 b
            go_wp2_with fail
            have H := to_below (specIsNoncrossingMatching_any _ _ _ r_f)
            refine H.mono ?_; clear H; rintro e w31 ⟨rfl, b⟩
            have B31 := below_then B30 b
            replace r_f := r_f.below b
            clear B30 b
            go_wp2_with fail
            have H := implFormatMatching_any _ _ _ r_f
            refine H.mono ?_; clear H; rintro e w32 ⟨rfl, b⟩
            have B32 := below_then B31 b
            replace r_f := r_f.below b
            clear B31 b
            go_wp2_with fail
            have H := specFormatMatching_any _ _ _ r_f
            refine H.mono ?_; clear H; rintro e w33 ⟨rfl, b⟩
            have B33 := below_then B32 b
            replace r_f := r_f.below b
            clear B32 b
            go_wp2_with fail
            go_ret
            exact ⟨rfl, B33⟩
          · rw [show (mopR xp).2 = false from by unfold mopR; rw [if_neg hP]]
            clear hP
            go_wp2_with fail
            have H := to_below (sameInts_any _ _ _ _ _ r_d r_e)
            rw [decide_eq_true (rfl : (mopR xp).1 = (mopR xp).1)] at H
            refine H.mono ?_; clear H; rintro e w19 ⟨rfl, b⟩
            have B19 := below_then B18 b
            replace r_code := r_code.below b
            replace r_d := r_d.below b
            replace r_e := r_e.below b
            clear B18 b
            go_wp2_with fail
            clear r_d
            clear r_e
            have H := DrawIsMatching_any v bs w19 r_code
            refine H.mono ?_; clear H; rintro e w20 ⟨rf, xf, rfl, r_f, pf, b⟩
            have B20 := below_then B19 b
            replace r_code := r_code.below b
            clear B19 b
            obtain ⟨Af, cf, rfl⟩ := r_f.shape
            go_wp2_with fail
            clear r_code
            have H := implPathOfMatching_any _ _ _ r_f
            refine H.mono ?_; clear H; rintro e w21 ⟨rfl, b⟩
            have B21 := below_then B20 b
            replace r_f := r_f.below b
            clear B20 b
            go_wp2_with fail
            have H := specPathOfMatching_any _ _ _ r_f
            refine H.mono ?_; clear H; rintro e w22 ⟨rfl, b⟩
            have B22 := below_then B21 b
            replace r_f := r_f.below b
            clear B21 b
            go_wp2_with fail
            have H := to_below (implIsMatching_any _ _ _ r_f)
            refine H.mono ?_; clear H; rintro e w23 ⟨rfl, b⟩
            have B23 := below_then B22 b
            replace r_f := r_f.below b
            clear B22 b
            go_wp2_with fail
            have H := to_below (specIsMatching_any _ _ _ r_f)
            refine H.mono ?_; clear H; rintro e w24 ⟨rfl, b⟩
            have B24 := below_then B23 b
            replace r_f := r_f.below b
            clear B23 b
            go_wp2_with fail
            have H := to_below (implCrossingsOf_any _ _ _ r_f)
            refine H.mono ?_; clear H; rintro e w25 ⟨rfl, b⟩
            have B25 := below_then B24 b
            replace r_f := r_f.below b
            clear B24 b
            go_wp2_with fail
            have H := to_below (specCrossingsOf_any _ _ _ r_f)
            refine H.mono ?_; clear H; rintro e w26 ⟨rfl, b⟩
            have B26 := below_then B25 b
            replace r_f := r_f.below b
            clear B25 b
            go_wp2_with fail
            have H := to_below (implNestingsOf_any _ _ _ r_f)
            refine H.mono ?_; clear H; rintro e w27 ⟨rfl, b⟩
            have B27 := below_then B26 b
            replace r_f := r_f.below b
            clear B26 b
            go_wp2_with fail
            have H := to_below (specNestingsOf_any _ _ _ r_f)
            refine H.mono ?_; clear H; rintro e w28 ⟨rfl, b⟩
            have B28 := below_then B27 b
            replace r_f := r_f.below b
            clear B27 b
            go_wp2_with fail
            have H := to_below (implIsNoncrossingMatching_any _ _ _ r_f)
            refine H.mono ?_; clear H; rintro e w29 ⟨rfl, b⟩
            have B29 := below_then B28 b
            replace r_f := r_f.below b
            clear B28 b
            go_wp2_with fail
            have H := to_below (specIsNoncrossingMatching_any _ _ _ r_f)
            refine H.mono ?_; clear H; rintro e w30 ⟨rfl, b⟩
            have B30 := below_then B29 b
            replace r_f := r_f.below b
            clear B29 b
            go_wp2_with fail
            have H := implFormatMatching_any _ _ _ r_f
            refine H.mono ?_; clear H; rintro e w31 ⟨rfl, b⟩
            have B31 := below_then B30 b
            replace r_f := r_f.below b
            clear B30 b
            go_wp2_with fail
            have H := specFormatMatching_any _ _ _ r_f
            refine H.mono ?_; clear H; rintro e w32 ⟨rfl, b⟩
            have B32 := below_then B31 b
            replace r_f := r_f.below b
            clear B31 b
            go_wp2_with fail
            go_ret
            exact ⟨rfl, B32⟩
      · rw [Bool.eq_false_iff.2 hT]
        clear hT
        go_wp2_with fail
        have H := to_below (sameInts_any _ _ _ _ _ r_b r_c)
        rw [decide_eq_true (rfl : (turnR xa k9).1 = (turnR xa k9).1)] at H
        refine H.mono ?_; clear H; rintro e w12 ⟨rfl, b⟩
        have B12 := below_then B11 b
        replace r_code := r_code.below b
        replace r_a := r_a.below b
        replace r_b := r_b.below b
        replace r_c := r_c.below b
        clear B11 b
        go_wp2_with fail
        clear r_a
        clear r_b
        clear r_c
        have H := DrawMatchingOfPartition_any v bs w12 r_code
        refine H.mono ?_; clear H; rintro e w13 ⟨rp, xp, rfl, r_p, pp, b⟩
        have B13 := below_then B12 b
        replace r_code := r_code.below b
        clear B12 b
        obtain ⟨Ap, cp, rfl⟩ := r_p.shape
        go_wp2_with fail
        have H := implMatchingOfPartition_any _ _ _ r_p
        refine H.mono ?_; clear H; rintro e w14 ⟨rd, rfl, od, b⟩
        have B14 := below_then B13 b
        replace r_code := r_code.below b
        replace r_p := r_p.below b
        clear B13 b
        have r_d := od.rd
        clear od
        go_wp2_with fail
        have H := specMatchingOfPartition_any _ _ _ r_p
        refine H.mono ?_; clear H; rintro e w15 ⟨re, rfl, oe, b⟩
        have B15 := below_then B14 b
        replace r_code := r_code.below b
        replace r_p := r_p.below b
        replace r_d := r_d.below b
        clear B14 b
        have r_e := oe.rd
        clear oe
        clear r_p
        by_cases hP : NonP xp
        · have HCR := Lib.hid (part_match hP pp)
          rw [show (mopR xp).2 = true from by unfold mopR; rw [if_pos hP]]
          clear hP
          go_wp2_with fail
          have H := to_below (sameInts_any _ _ _ _ _ r_d r_e)
          rw [decide_eq_true (rfl : (mopR xp).1 = (mopR xp).1)] at H
          refine H.mono ?_; clear H; rintro e w16 ⟨rfl, b⟩
          have B16 := below_then B15 b
          replace r_code := r_code.below b
          replace r_d := r_d.below b
          replace r_e := r_e.below b
          clear B15 b
          go_wp2_with fail
          clear r_d
          have H := to_below (implIsNoncrossingMatching_any _ _ _ r_e)
          rw [HCR.out] at H
          refine H.mono ?_; clear H; rintro e w17 ⟨rfl, b⟩
          have B17 := below_then B16 b
          replace r_code := r_code.below b
          replace r_e := r_e.below b
          clear B16 b
          go_wp2_with fail
          clear r_e
          have H := DrawIsMatching_any v bs w17 r_code
          refine H.mono ?_; clear H; rintro e w18 ⟨rf, xf, rfl, r_f, pf, b⟩
          have B18 := below_then B17 b
          replace r_code := r_code.below b
          clear B17 b
          obtain ⟨Af, cf, rfl⟩ := r_f.shape
          go_wp2_with fail
          clear r_code
          have H := implPathOfMatching_any _ _ _ r_f
          refine H.mono ?_; clear H; rintro e w19 ⟨rfl, b⟩
          have B19 := below_then B18 b
          replace r_f := r_f.below b
          clear B18 b
          go_wp2_with fail
          have H := specPathOfMatching_any _ _ _ r_f
          refine H.mono ?_; clear H; rintro e w20 ⟨rfl, b⟩
          have B20 := below_then B19 b
          replace r_f := r_f.below b
          clear B19 b
          go_wp2_with fail
          have H := to_below (implIsMatching_any _ _ _ r_f)
          refine H.mono ?_; clear H; rintro e w21 ⟨rfl, b⟩
          have B21 := below_then B20 b
          replace r_f := r_f.below b
          clear B20 b
          go_wp2_with fail
          have H := to_below (specIsMatching_any _ _ _ r_f)
          refine H.mono ?_; clear H; rintro e w22 ⟨rfl, b⟩
          have B22 := below_then B21 b
          replace r_f := r_f.below b
          clear B21 b
          go_wp2_with fail
          have H := to_below (implCrossingsOf_any _ _ _ r_f)
          refine H.mono ?_; clear H; rintro e w23 ⟨rfl, b⟩
          have B23 := below_then B22 b
          replace r_f := r_f.below b
          clear B22 b
          go_wp2_with fail
          have H := to_below (specCrossingsOf_any _ _ _ r_f)
          refine H.mono ?_; clear H; rintro e w24 ⟨rfl, b⟩
          have B24 := below_then B23 b
          replace r_f := r_f.below b
          clear B23 b
          go_wp2_with fail
          have H := to_below (implNestingsOf_any _ _ _ r_f)
          refine H.mono ?_; clear H; rintro e w25 ⟨rfl, b⟩
          have B25 := below_then B24 b
          replace r_f := r_f.below b
          clear B24 b
          go_wp2_with fail
          have H := to_below (specNestingsOf_any _ _ _ r_f)
          refine H.mono ?_; clear H; rintro e w26 ⟨rfl, b⟩
          have B26 := below_then B25 b
          replace r_f := r_f.below b
          clear B25 b
          go_wp2_with fail
          have H := to_below (implIsNoncrossingMatching_any _ _ _ r_f)
          refine H.mono ?_; clear H; rintro e w27 ⟨rfl, b⟩
          have B27 := below_then B26 b
          replace r_f := r_f.below b
          clear B26 b
          go_wp2_with fail
          have H := to_below (specIsNoncrossingMatching_any _ _ _ r_f)
          refine H.mono ?_; clear H; rintro e w28 ⟨rfl, b⟩
          have B28 := below_then B27 b
          replace r_f := r_f.below b
          clear B27 b
          go_wp2_with fail
          have H := implFormatMatching_any _ _ _ r_f
          refine H.mono ?_; clear H; rintro e w29 ⟨rfl, b⟩
          have B29 := below_then B28 b
          replace r_f := r_f.below b
          clear B28 b
          go_wp2_with fail
          have H := specFormatMatching_any _ _ _ r_f
          refine H.mono ?_; clear H; rintro e w30 ⟨rfl, b⟩
          have B30 := below_then B29 b
          replace r_f := r_f.below b
          clear B29 b
          go_wp2_with fail
          go_ret
          exact ⟨rfl, B30⟩
        · rw [show (mopR xp).2 = false from by unfold mopR; rw [if_neg hP]]
          clear hP
          go_wp2_with fail
          have H := to_below (sameInts_any _ _ _ _ _ r_d r_e)
          rw [decide_eq_true (rfl : (mopR xp).1 = (mopR xp).1)] at H
          refine H.mono ?_; clear H; rintro e w16 ⟨rfl, b⟩
          have B16 := below_then B15 b
          replace r_code := r_code.below b
          replace r_d := r_d.below b
          replace r_e := r_e.below b
          clear B15 b
          go_wp2_with fail
          clear r_d
          clear r_e
          have H := DrawIsMatching_any v bs w16 r_code
          refine H.mono ?_; clear H; rintro e w17 ⟨rf, xf, rfl, r_f, pf, b⟩
          have B17 := below_then B16 b
          replace r_code := r_code.below b
          clear B16 b
          obtain ⟨Af, cf, rfl⟩ := r_f.shape
          go_wp2_with fail
          clear r_code
          have H := implPathOfMatching_any _ _ _ r_f
          refine H.mono ?_; clear H; rintro e w18 ⟨rfl, b⟩
          have B18 := below_then B17 b
          replace r_f := r_f.below b
          clear B17 b
          go_wp2_with fail
          have H := specPathOfMatching_any _ _ _ r_f
          refine H.mono ?_; clear H; rintro e w19 ⟨rfl, b⟩
          have B19 := below_then B18 b
          replace r_f := r_f.below b
          clear B18 b
          go_wp2_with fail
          have H := to_below (implIsMatching_any _ _ _ r_f)
          refine H.mono ?_; clear H; rintro e w20 ⟨rfl, b⟩
          have B20 := below_then B19 b
          replace r_f := r_f.below b
          clear B19 b
          go_wp2_with fail
          have H := to_below (specIsMatching_any _ _ _ r_f)
          refine H.mono ?_; clear H; rintro e w21 ⟨rfl, b⟩
          have B21 := below_then B20 b
          replace r_f := r_f.below b
          clear B20 b
          go_wp2_with fail
          have H := to_below (implCrossingsOf_any _ _ _ r_f)
          refine H.mono ?_; clear H; rintro e w22 ⟨rfl, b⟩
          have B22 := below_then B21 b
          replace r_f := r_f.below b
          clear B21 b
          go_wp2_with fail
          have H := to_below (specCrossingsOf_any _ _ _ r_f)
          refine H.mono ?_; clear H; rintro e w23 ⟨rfl, b⟩
          have B23 := below_then B22 b
          replace r_f := r_f.below b
          clear B22 b
          go_wp2_with fail
          have H := to_below (implNestingsOf_any _ _ _ r_f)
          refine H.mono ?_; clear H; rintro e w24 ⟨rfl, b⟩
          have B24 := below_then B23 b
          replace r_f := r_f.below b
          clear B23 b
          go_wp2_with fail
          have H := to_below (specNestingsOf_any _ _ _ r_f)
          refine H.mono ?_; clear H; rintro e w25 ⟨rfl, b⟩
          have B25 := below_then B24 b
          replace r_f := r_f.below b
          clear B24 b
          go_wp2_with fail
          have H := to_below (implIsNoncrossingMatching_any _ _ _ r_f)
          refine H.mono ?_; clear H; rintro e w26 ⟨rfl, b⟩
          have B26 := below_then B25 b
          replace r_f := r_f.below b
          clear B25 b
          go_wp2_with fail
          have H := to_below (specIsNoncrossingMatching_any _ _ _ r_f)
          refine H.mono ?_; clear H; rintro e w27 ⟨rfl, b⟩
          have B27 := below_then B26 b
          replace r_f := r_f.below b
          clear B26 b
          go_wp2_with fail
          have H := implFormatMatching_any _ _ _ r_f
          refine H.mono ?_; clear H; rintro e w28 ⟨rfl, b⟩
          have B28 := below_then B27 b
          replace r_f := r_f.below b
          clear B27 b
          go_wp2_with fail
          have H := specFormatMatching_any _ _ _ r_f
          refine H.mono ?_; clear H; rintro e w29 ⟨rfl, b⟩
          have B29 := below_then B28 b
          replace r_f := r_f.below b
          clear B28 b
          go_wp2_with fail
          go_ret
          exact ⟨rfl, B29⟩
    · have HYES : Hid ((mofR (L sw)).2 = false) := Lib.hid (by unfold mofR; rw [if_neg hD])
      clear hD
      rw [HYES.out]
      go_wp2_with fail
      have H := to_below (sameInts_any _ _ _ _ _ r_P r_Q)
      rw [decide_eq_true (rfl : (mofR (L sw)).1 = (mofR (L sw)).1)] at H
      refine H.mono ?_; clear H; rintro e w4 ⟨rfl, b⟩
      have B4 := below_then B3 b
      replace r_code := r_code.below b
      replace r_P := r_P.below b
      replace r_Q := r_Q.below b
      clear B3 b
      go_wp2_with fail
      clear r_P
      clear r_Q
      have H := DrawTurnMatching_any v bs w4 r_code
      refine H.mono ?_; clear H; rintro e w5 ⟨ra, xa, k9, rfl, r_a, ⟨pa, la⟩, hk9, b⟩
      have B5 := below_then B4 b
      replace r_code := r_code.below b
      clear B4 b
      obtain ⟨Aa, ca, rfl⟩ := r_a.shape
      go_wp2_with fail
      have H := implTurnMatching_any _ _ k9 _ r_a hk9
      refine H.mono ?_; clear H; rintro e w6 ⟨rb, rfl, ob, b⟩
      have B6 := below_then B5 b
      replace r_code := r_code.below b
      replace r_a := r_a.below b
      clear B5 b
      have r_b := ob.rd
      clear ob
      go_wp2_with fail
      have H := specTurnMatching_any _ _ k9 _ r_a hk9
      refine H.mono ?_; clear H; rintro e w7 ⟨rc, rfl, oc, b⟩
      have B7 := below_then B6 b
      replace r_code := r_code.below b
      replace r_a := r_a.below b
      replace r_b := r_b.below b
      clear B6 b
      have r_c := oc.rd
      clear oc
      by_cases hT : (turnR xa k9).2 = true
      · have T := turn_match pa hT
        have HY := Lib.hid (decide_eq_true T.yes)
        have HCX := Lib.hid T.cross
        have HBK := Lib.hid T.back
        have hr := of_decide_eq_true ((turnR_yes xa k9).symm.trans hT)
        rw [hT]
        clear T hT
        go_wp2_with fail
        have H := to_below (sameInts_any _ _ _ _ _ r_b r_c)
        rw [decide_eq_true (rfl : (turnR xa k9).1 = (turnR xa k9).1)] at H
        refine H.mono ?_; clear H; rintro e w8 ⟨rfl, b⟩
        have B8 := below_then B7 b
        replace r_code := r_code.below b
        replace r_a := r_a.below b
        replace r_b := r_b.below b
        replace r_c := r_c.below b
        clear B7 b
        go_wp2_with fail
        clear r_b
        have H := to_below (implIsMatching_any _ _ _ r_c)
        rw [HY.out] at H
        refine H.mono ?_; clear H; rintro e w9 ⟨rfl, b⟩
        have B9 := below_then B8 b
        replace r_code := r_code.below b
        replace r_a := r_a.below b
        replace r_c := r_c.below b
        clear B8 b
        go_wp2_with fail
        have H := to_below (implCrossingsOf_any _ _ _ r_c)
        rw [HCX.out] at H
        refine H.mono ?_; clear H; rintro e w10 ⟨rfl, b⟩
        have B10 := below_then B9 b
        replace r_code := r_code.below b
        replace r_a := r_a.below b
        replace r_c := r_c.below b
        clear B9 b
        go_wp2_with fail
        have H := to_below (implCrossingsOf_any _ _ _ r_a)
        refine H.mono ?_; clear H; rintro e w11 ⟨rfl, b⟩
        have B11 := below_then B10 b
        replace r_code := r_code.below b
        replace r_a := r_a.below b
        replace r_c := r_c.below b
        clear B10 b
        by_cases hp : 0 < xa.length
        · have hpi : (0 : Int) < (xa.length : Int) := by omega
          obtain ⟨t9, ht9⟩ : ∃ t9, t9 = ((xa.length : Int) - k9) % xa.length := ⟨_, rfl⟩
          have hb0 := Int.emod_nonneg ((xa.length : Int) - k9) (b := (xa.length : Int)) (by omega)
          have hb1 := Int.emod_lt_of_pos ((xa.length : Int) - k9) (b := (xa.length : Int)) (by omega)
          rw [← ht9] at hb0 hb1
          have HB9 := HBK.out hp
          rw [← ht9] at HB9
          have HB := Lib.hid HB9
          have hk0 := hr.2
          have ew : IntKind.i64.wrap ((xa.length : Int) - k9) = (xa.length : Int) - k9 := IntWalk.i64_in _ (by omega)
          have et : ((xa.length : Int) - k9).tmod xa.length = t9 := by rw [ht9]; exact Int.tmod_eq_emod_of_nonneg (by omega)
          have hnz : ((xa.length : Int) == 0) = false := beq_eq_false_iff_ne.2 (by omega)
          have ht64 : I64 t9 := by unfold I64; omega
          have HR := Lib.hid hr
          clear ht9 HB9 hr HBK
          go_wp2_with fail
          have H := implTurnMatching_any _ _ t9 _ r_c ht64
          rw [HB.out] at H
          refine H.mono ?_; clear H; rintro e w12 ⟨rg, rfl, og, b⟩
          have B12 := below_then B11 b
          replace r_code := r_code.below b
          replace r_a := r_a.below b
          replace r_c := r_c.below b
          clear B11 b
          have r_g := og.rd
          clear og
          go_wp2_with fail
          clear r_c
          have H := to_below (sameInts_any _ _ _ _ _ r_g r_a)
          rw [decide_eq_true (rfl : xa = xa)] at H
          refine H.mono ?_; clear H; rintro e w13 ⟨rfl, b⟩
          have B13 := below_then B12 b
          replace r_code := r_code.below b
          replace r_a := r_a.below b
          replace r_g := r_g.below b
          clear B12 b
          go_wp2_with fail
          clear r_g
          clear r_a
          have H := DrawMatchingOfPartition_any v bs w13 r_code
          refine H.mono ?_; clear H; rintro e w14 ⟨rp, xp, rfl, r_p, pp, b⟩
          have B14 := below_then B13 b
          replace r_code := r_code.below b
          clear B13 b
          obtain ⟨Ap, cp, rfl⟩ := r_p.shape
          go_wp2_with fail
          have H := implMatchingOfPartition_any _ _ _ r_p
          refine H.mono ?_; clear H; rintro e w15 ⟨rd, rfl, od, b⟩
          have B15 := below_then B14 b
          replace r_code := r_code.below b
          replace r_p := r_p.below b
          clear B14 b
          have r_d := od.rd
          clear od
          go_wp2_with fail
          have H := specMatchingOfPartition_any _ _ _ r_p
          refine H.mono ?_; clear H; rintro e w16 ⟨re, rfl, oe, b⟩
          have B16 := below_then B15 b
          replace r_code := r_code.below b
          replace r_p := r_p.below b
          replace r_d := r_d.below b
          clear B15 b
          have r_e := oe.rd
          clear oe
          clear r_p
          by_cases hP : NonP xp
          · have HCR := Lib.hid (part_match hP pp)
            rw [show (mopR xp).2 = true from by unfold mopR; rw [if_pos hP]]
            clear hP
            go_wp2_with fail
            have H := to_below (sameInts_any _ _ _ _ _ r_d r_e)
            rw [decide_eq_true (rfl : (mopR xp).1 = (mopR xp).1)] at H
            refine H.mono ?_; clear H; rintro e w17 ⟨rfl, b⟩
            have B17 := below_then B16 b
            replace r_code := r_code.below b
            replace r_d := r_d.below b
            replace r_e := r_e.below b
            clear B16 b
            go_wp2_with fail
            clear r_d
            have H := to_below (implIsNoncrossingMatching_any _ _ _ r_e)
            rw [HCR.out] at H
            refine H.mono ?_; clear H; rintro e w18 ⟨rfl, b⟩
            have B18 := below_then B17 b
            replace r_code := r_code.below b
            replace r_e := r_e.below b
            clear B17 b
            go_wp2_with fail
            clear r_e
            have H := DrawIsMatching_any v bs w18 r_code
            refine H.mono ?_; clear H; rintro e w19 ⟨rf, xf, rfl, r_f, pf, b⟩
            have B19 := below_then B18 b
            replace r_code := r_code.below b
            clear B18 b
            obtain ⟨Af, cf, rfl⟩ := r_f.shape
            go_wp2_with fail
            clear r_code
            have H := implPathOfMatching_any _ _ _ r_f
            refine H.mono ?_; clear H; rintro e w20 ⟨rfl, b⟩
            have B20 := below_then B19 b
            replace r_f := r_f.below b
            clear B19 b
            go_wp2_with fail
            have H := specPathOfMatching_any _ _ _ r_f
            refine H.mono ?_; clear H; rintro e w21 ⟨rfl, b⟩
            have B21 := below_then B20 b
            replace r_f := r_f.below b
            clear B20 b
            go_wp2_with fail
            have H := to_below (implIsMatching_any _ _ _ r_f)
            refine H.mono ?_; clear H; rintro e w22 ⟨rfl, b⟩
            have B22 := below_then B21 b
            replace r_f := r_f.below b
            clear B21 b
            go_wp2_with fail
            have H := to_below (specIsMatching_any _ _ _ r_f)
            refine H.mono ?_; clear H; rintro e w23 ⟨rfl, b⟩
            have B23 := below_then B22 b
            replace r_f := r_f.below b
            clear B22 b
            go_wp2_with fail
            have H := to_below (implCrossingsOf_any _ _ _ r_f)
            refine H.mono ?_; clear H; rintro e w24 ⟨rfl, b⟩
            have B24 := below_then B23 b
            replace r_f := r_f.below b
            clear B23 b
            go_wp2_with fail
            have H := to_below (specCrossingsOf_any _ _ _ r_f)
            refine H.mono ?_; clear H; rintro e w25 ⟨rfl, b⟩
            have B25 := below_then B24 b
            replace r_f := r_f.below b
            clear B24 b
            go_wp2_with fail
            have H := to_below (implNestingsOf_any _ _ _ r_f)
            refine H.mono ?_; clear H; rintro e w26 ⟨rfl, b⟩
            have B26 := below_then B25 b
            replace r_f := r_f.below b
            clear B25 b
            go_wp2_with fail
            have H := to_below (specNestingsOf_any _ _ _ r_f)
            refine H.mono ?_; clear H; rintro e w27 ⟨rfl, b⟩
            have B27 := below_then B26 b
            replace r_f := r_f.below b
            clear B26 b
            go_wp2_with fail
            have H := to_below (implIsNoncrossingMatching_any _ _ _ r_f)
            refine H.mono ?_; clear H; rintro e w28 ⟨rfl, b⟩
            have B28 := below_then B27 b
            replace r_f := r_f.below b
            clear B27 b
            go_wp2_with fail
            have H := to_below (specIsNoncrossingMatching_any _ _ _ r_f)
            refine H.mono ?_; clear H; rintro e w29 ⟨rfl, b⟩
            have B29 := below_then B28 b
            replace r_f := r_f.below b
            clear B28 b
            go_wp2_with fail
            have H := implFormatMatching_any _ _ _ r_f
            refine H.mono ?_; clear H; rintro e w30 ⟨rfl, b⟩
            have B30 := below_then B29 b
            replace r_f := r_f.below b
            clear B29 b
            go_wp2_with fail
            have H := specFormatMatching_any _ _ _ r_f
            refine H.mono ?_; clear H; rintro e w31 ⟨rfl, b⟩
            have B31 := below_then B30 b
            replace r_f := r_f.below b
            clear B30 b
            go_wp2_with fail
            go_ret
            exact ⟨rfl, B31⟩
          · rw [show (mopR xp).2 = false from by unfold mopR; rw [if_neg hP]]
            clear hP
            go_wp2_with fail
            have H := to_below (sameInts_any _ _ _ _ _ r_d r_e)
            rw [decide_eq_true (rfl : (mopR xp).1 = (mopR xp).1)] at H
            refine H.mono ?_; clear H; rintro e w17 ⟨rfl, b⟩
            have B17 := below_then B16 b
            replace r_code := r_code.below b
            replace r_d := r_d.below b
            replace r_e := r_e.below b
            clear B16 b
            go_wp2_with fail
            clear r_d
            clear r_e
            have H := DrawIsMatching_any v bs w17 r_code
            refine H.mono ?_; clear H; rintro e w18 ⟨rf, xf, rfl, r_f, pf, b⟩
            have B18 := below_then B17 b
            replace r_code := r_code.below b
            clear B17 b
            obtain ⟨Af, cf, rfl⟩ := r_f.shape
            go_wp2_with fail
            clear r_code
            have H := implPathOfMatching_any _ _ _ r_f
            refine H.mono ?_; clear H; rintro e w19 ⟨rfl, b⟩
            have B19 := below_then B18 b
            replace r_f := r_f.below b
            clear B18 b
            go_wp2_with fail
            have H := specPathOfMatching_any _ _ _ r_f
            refine H.mono ?_; clear H; rintro e w20 ⟨rfl, b⟩
            have B20 := below_then B19 b
            replace r_f := r_f.below b
            clear B19 b
            go_wp2_with fail
            have H := to_below (implIsMatching_any _ _ _ r_f)
            refine H.mono ?_; clear H; rintro e w21 ⟨rfl, b⟩
            have B21 := below_then B20 b
            replace r_f := r_f.below b
            clear B20 b
            go_wp2_with fail
            have H := to_below (specIsMatching_any _ _ _ r_f)
            refine H.mono ?_; clear H; rintro e w22 ⟨rfl, b⟩
            have B22 := below_then B21 b
            replace r_f := r_f.below b
            clear B21 b
            go_wp2_with fail
            have H := to_below (implCrossingsOf_any _ _ _ r_f)
            refine H.mono ?_; clear H; rintro e w23 ⟨rfl, b⟩
            have B23 := below_then B22 b
            replace r_f := r_f.below b
            clear B22 b
            go_wp2_with fail
            have H := to_below (specCrossingsOf_any _ _ _ r_f)
            refine H.mono ?_; clear H; rintro e w24 ⟨rfl, b⟩
            have B24 := below_then B23 b
            replace r_f := r_f.below b
            clear B23 b
            go_wp2_with fail
            have H := to_below (implNestingsOf_any _ _ _ r_f)
            refine H.mono ?_; clear H; rintro e w25 ⟨rfl, b⟩
            have B25 := below_then B24 b
            replace r_f := r_f.below b
            clear B24 b
            go_wp2_with fail
            have H := to_below (specNestingsOf_any _ _ _ r_f)
            refine H.mono ?_; clear H; rintro e w26 ⟨rfl, b⟩
            have B26 := below_then B25 b
            replace r_f := r_f.below b
            clear B25 b
            go_wp2_with fail
            have H := to_below (implIsNoncrossingMatching_any _ _ _ r_f)
            refine H.mono ?_; clear H; rintro e w27 ⟨rfl, b⟩
            have B27 := below_then B26 b
            replace r_f := r_f.below b
            clear B26 b
            go_wp2_with fail
            have H := to_below (specIsNoncrossingMatching_any _ _ _ r_f)
            refine H.mono ?_; clear H; rintro e w28 ⟨rfl, b⟩
            have B28 := below_then B27 b
            replace r_f := r_f.below b
            clear B27 b
            go_wp2_with fail
            have H := implFormatMatching_any _ _ _ r_f
            refine H.mono ?_; clear H; rintro e w29 ⟨rfl, b⟩
            have B29 := below_then B28 b
            replace r_f := r_f.below b
            clear B28 b
            go_wp2_with fail
            have H := specFormatMatching_any _ _ _ r_f
            refine H.mono ?_; clear H; rintro e w30 ⟨rfl, b⟩
            have B30 := below_then B29 b
            replace r_f := r_f.below b
            clear B29 b
            go_wp2_with fail
            go_ret
            exact ⟨rfl, B30⟩
        · have hpi : ¬ (0 : Int) < (xa.length : Int) := by omega
          clear hr HBK
          go_wp2_with fail
          clear r_c
          clear r_a
          have H := DrawMatchingOfPartition_any v bs w11 r_code
          refine H.mono ?_; clear H; rintro e w12 ⟨rp, xp, rfl, r_p, pp, b⟩
          have B12 := below_then B11 b
          replace r_code := r_code.below b
          clear B11 b
          obtain ⟨Ap, cp, rfl⟩ := r_p.shape
          go_wp2_with fail
          have H := implMatchingOfPartition_any _ _ _ r_p
          refine H.mono ?_; clear H; rintro e w13 ⟨rd, rfl, od, b⟩
          have B13 := below_then B12 b
          replace r_code := r_code.below b
          replace r_p := r_p.below b
          clear B12 b
          have r_d := od.rd
          clear od
          go_wp2_with fail
          have H := specMatchingOfPartition_any _ _ _ r_p
          refine H.mono ?_; clear H; rintro e w14 ⟨re, rfl, oe, b⟩
          have B14 := below_then B13 b
          replace r_code := r_code.below b
          replace r_p := r_p.below b
          replace r_d := r_d.below b
          clear B13 b
          have r_e := oe.rd
          clear oe
          clear r_p
          by_cases hP : NonP xp
          · have HCR := Lib.hid (part_match hP pp)
            rw [show (mopR xp).2 = true from by unfold mopR; rw [if_pos hP]]
            clear hP
            go_wp2_with fail
            have H := to_below (sameInts_any _ _ _ _ _ r_d r_e)
            rw [decide_eq_true (rfl : (mopR xp).1 = (mopR xp).1)] at H
            refine H.mono ?_; clear H; rintro e w15 ⟨rfl, b⟩
            have B15 := below_then B14 b
            replace r_code := r_code.below b
            replace r_d := r_d.below b
            replace r_e := r_e.below b
            clear B14 b
            go_wp2_with fail
            clear r_d
            have H := to_below (implIsNoncrossingMatching_any _ _ _ r_e)
            rw [HCR.out] at H
            refine H.mono ?_; clear H; rintro e w16 ⟨rfl, b⟩
            have B16 := below_then B15 b
            replace r_code := r_code.below b
            replace r_e := r_e.below b
            clear B15 b
            go_wp2_with fail
            clear r_e
            have H := DrawIsMatching_any v bs w16 r_code
            refine H.mono ?_; clear H; rintro e w17 ⟨rf, xf, rfl, r_f, pf, b⟩
            have B17 := below_then B16 b
            replace r_code := r_code.below b
            clear B16 b
            obtain ⟨Af, cf, rfl⟩ := r_f.shape
            go_wp2_with fail
            clear r_code
            have H := implPathOfMatching_any _ _ _ r_f
            refine H.mono ?_; clear H; rintro e w18 ⟨rfl, b⟩
            have B18 := below_then B17 b
            replace r_f := r_f.below b
            clear B17 b
            go_wp2_with fail
            have H := specPathOfMatching_any _ _ _ r_f
            refine H.mono ?_; clear H; rintro e w19 ⟨rfl, b⟩
            have B19 := below_then B18 b
            replace r_f := r_f.below b
            clear B18 b
            go_wp2_with fail
            have H := to_below (implIsMatching_any _ _ _ r_f)
            refine H.mono ?_; clear H; rintro e w20 ⟨rfl, b⟩
            have B20 := below_then B19 b
            replace r_f := r_f.below b
            clear B19 b
            go_wp2_with fail
            have H := to_below (specIsMatching_any _ _ _ r_f)
            refine H.mono ?_; clear H; rintro e w21 ⟨rfl, b⟩
            have B21 := below_then B20 b
            replace r_f := r_f.below b
            clear B20 b
            go_wp2_with fail
            have H := to_below (implCrossingsOf_any _ _ _ r_f)
            refine H.mono ?_; clear H; rintro e w22 ⟨rfl, b⟩
            have B22 := below_then B21 b
            replace r_f := r_f.below b
            clear B21 b
            go_wp2_with fail
            have H := to_below (specCrossingsOf_any _ _ _ r_f)
            refine H.mono ?_; clear H; rintro e w23 ⟨rfl, b⟩
            have B23 := below_then B22 b
            replace r_f := r_f.below b
            clear B22 b
            go_wp2_with fail
            have H := to_below (implNestingsOf_any _ _ _ r_f)
            refine H.mono ?_; clear H; rintro e w24 ⟨rfl, b⟩
            have B24 := below_then B23 b
            replace r_f := r_f.below b
            clear B23 b
            go_wp2_with fail
            have H := to_below (specNestingsOf_any _ _ _ r_f)
            refine H.mono ?_; clear H; rintro e w25 ⟨rfl, b⟩
            have B25 := below_then B24 b
            replace r_f := r_f.below b
            clear B24 b
            go_wp2_with fail
            have H := to_below (implIsNoncrossingMatching_any _ _ _ r_f)
            refine H.mono ?_; clear H; rintro e w26 ⟨rfl, b⟩
            have B26 := below_then B25 b
            replace r_f := r_f.below b
            clear B25 b
            go_wp2_with fail
            have H := to_below (specIsNoncrossingMatching_any _ _ _ r_f)
            refine H.mono ?_; clear H; rintro e w27 ⟨rfl, b⟩
            have B27 := below_then B26 b
            replace r_f := r_f.below b
            clear B26 b
            go_wp2_with fail
            have H := implFormatMatching_any _ _ _ r_f
            refine H.mono ?_; clear H; rintro e w28 ⟨rfl, b⟩
            have B28 := below_then B27 b
            replace r_f := r_f.below b
            clear B27 b
            go_wp2_with fail
            have H := specFormatMatching_any _ _ _ r_f
            refine H.mono ?_; clear H; rintro e w29 ⟨rfl, b⟩
            have B29 := below_then B28 b
            replace r_f := r_f.below b
            clear B28 b
            go_wp2_with fail
            go_ret
            exact ⟨rfl, B29⟩
          · rw [show (mopR xp).2 = false from by unfold mopR; rw [if_neg hP]]
            clear hP
            go_wp2_with fail
            have H := to_below (sameInts_any _ _ _ _ _ r_d r_e)
            rw [decide_eq_true (rfl : (mopR xp).1 = (mopR xp).1)] at H
            refine H.mono ?_; clear H; rintro e w15 ⟨rfl, b⟩
            have B15 := below_then B14 b
            replace r_code := r_code.below b
            replace r_d := r_d.below b
            replace r_e := r_e.below b
            clear B14 b
            go_wp2_with fail
            clear r_d
            clear r_e
            have H := DrawIsMatching_any v bs w15 r_code
            refine H.mono ?_; clear H; rintro e w16 ⟨rf, xf, rfl, r_f, pf, b⟩
            have B16 := below_then B15 b
            replace r_code := r_code.below b
            clear B15 b
            obtain ⟨Af, cf, rfl⟩ := r_f.shape
            go_wp2_with fail
            clear r_code
            have H := implPathOfMatching_any _ _ _ r_f
            refine H.mono ?_; clear H; rintro e w17 ⟨rfl, b⟩
            have B17 := below_then B16 b
            replace r_f := r_f.below b
            clear B16 b
            go_wp2_with fail
            have H := specPathOfMatching_any _ _ _ r_f
            refine H.mono ?_; clear H; rintro e w18 ⟨rfl, b⟩
            have B18 := below_then B17 b
            replace r_f := r_f.below b
            clear B17 b
            go_wp2_with fail
            have H := to_below (implIsMatching_any _ _ _ r_f)
            refine H.mono ?_; clear H; rintro e w19 ⟨rfl, b⟩
            have B19 := below_then B18 b
            replace r_f := r_f.below b
            clear B18 b
            go_wp2_with fail
            have H := to_below (specIsMatching_any _ _ _ r_f)
            refine H.mono ?_; clear H; rintro e w20 ⟨rfl, b⟩
            have B20 := below_then B19 b
            replace r_f := r_f.below b
            clear B19 b
            go_wp2_with fail
            have H := to_below (implCrossingsOf_any _ _ _ r_f)
            refine H.mono ?_; clear H; rintro e w21 ⟨rfl, b⟩
            have B21 := below_then B20 b
            replace r_f := r_f.below b
            clear B20 b
            go_wp2_with fail
            have H := to_below (specCrossingsOf_any _ _ _ r_f)
            refine H.mono ?_; clear H; rintro e w22 ⟨rfl, b⟩
            have B22 := below_then B21 b
            replace r_f := r_f.below b
            clear B21 b
            go_wp2_with fail
            have H := to_below (implNestingsOf_any _ _ _ r_f)
            refine H.mono ?_; clear H; rintro e w23 ⟨rfl, b⟩
            have B23 := below_then B22 b
            replace r_f := r_f.below b
            clear B22 b
            go_wp2_with fail
            have H := to_below (specNestingsOf_any _ _ _ r_f)
            refine H.mono ?_; clear H; rintro e w24 ⟨rfl, b⟩
            have B24 := below_then B23 b
            replace r_f := r_f.below b
            clear B23 b
            go_wp2_with fail
            have H := to_below (implIsNoncrossingMatching_any _ _ _ r_f)
            refine H.mono ?_; clear H; rintro e w25 ⟨rfl, b⟩
            have B25 := below_then B24 b
            replace r_f := r_f.below b
            clear B24 b
            go_wp2_with fail
            have H := to_below (specIsNoncrossingMatching_any _ _ _ r_f)
            refine H.mono ?_; clear H; rintro e w26 ⟨rfl, b⟩
            have B26 := below_then B25 b
            replace r_f := r_f.below b
            clear B25 b
            go_wp2_with fail
            have H := implFormatMatching_any _ _ _ r_f
            refine H.mono ?_; clear H; rintro e w27 ⟨rfl, b⟩
            have B27 := below_then B26 b
            replace r_f := r_f.below b
            clear B26 b
            go_wp2_with fail
            have H := specFormatMatching_any _ _ _ r_f
            refine H.mono ?_; clear H; rintro e w28 ⟨rfl, b⟩
            have B28 := below_then B27 b
            replace r_f := r_f.below b
            clear B27 b
            go_wp2_with fail
            go_ret
            exact ⟨rfl, B28⟩
      · rw [Bool.eq_false_iff.2 hT]
        clear hT
        go_wp2_with fail
        have H := to_below (sameInts_any _ _ _ _ _ r_b r_c)
        rw [decide_eq_true (rfl : (turnR xa k9).1 = (turnR xa k9).1)] at H
        refine H.mono ?_; clear H; rintro e w8 ⟨rfl, b⟩
        have B8 := below_then B7 b
        replace r_code := r_code.below b
        replace r_a := r_a.below b
        replace r_b := r_b.below b
        replace r_c := r_c.below b
        clear B7 b
        go_wp2_with fail
        clear r_a
        clear r_b
        clear r_c
        have H := DrawMatchingOfPartition_any v bs w8 r_code
        refine H.mono ?_; clear H; rintro e w9 ⟨rp, xp, rfl, r_p, pp, b⟩
        have B9 := below_then B8 b
        replace r_code := r_code.below b
        clear B8 b
        obtain ⟨Ap, cp, rfl⟩ := r_p.shape
        go_wp2_with fail
        have H := implMatchingOfPartition_any _ _ _ r_p
        refine H.mono ?_; clear H; rintro e w10 ⟨rd, rfl, od, b⟩
        have B10 := below_then B9 b
        replace r_code := r_code.below b
        replace r_p := r_p.below b
        clear B9 b
        have r_d := od.rd
        clear od
        go_wp2_with fail
        have H := specMatchingOfPartition_any _ _ _ r_p
        refine H.mono ?_; clear H; rintro e w11 ⟨re, rfl, oe, b⟩
        have B11 := below_then B10 b
        replace r_code := r_code.below b
        replace r_p := r_p.below b
        replace r_d := r_d.below b
        clear B10 b
        have r_e := oe.rd
        clear oe
        clear r_p
        by_cases hP : NonP xp
        · have HCR := Lib.hid (part_match hP pp)
          rw [show (mopR xp).2 = true from by unfold mopR; rw [if_pos hP]]
          clear hP
          go_wp2_with fail
          have H := to_below (sameInts_any _ _ _ _ _ r_d r_e)
          rw [decide_eq_true (rfl : (mopR xp).1 = (mopR xp).1)] at H
          refine H.mono ?_; clear H; rintro e w12 ⟨rfl, b⟩
          have B12 := below_then B11 b
          replace r_code := r_code.below b
          replace r_d := r_d.below b
          replace r_e := r_e.below b
          clear B11 b
          go_wp2_with fail
          clear r_d
          have H := to_below (implIsNoncrossingMatching_any _ _ _ r_e)
          rw [HCR.out] at H
          refine H.mono ?_; clear H; rintro e w13 ⟨rfl, b⟩
          have B13 := below_then B12 b
          replace r_code := r_code.below b
          replace r_e := r_e.below b
          clear B12 b
          go_wp2_with fail
          clear r_e
          have H := DrawIsMatching_any v bs w13 r_code
          refine H.mono ?_; clear H; rintro e w14 ⟨rf, xf, rfl, r_f, pf, b⟩
          have B14 := below_then B13 b
          replace r_code := r_code.below b
          clear B13 b
          obtain ⟨Af, cf, rfl⟩ := r_f.shape
          go_wp2_with fail
          clear r_code
          have H := implPathOfMatching_any _ _ _ r_f
          refine H.mono ?_; clear H; rintro e w15 ⟨rfl, b⟩
          have B15 := below_then B14 b
          replace r_f := r_f.below b
          clear B14 b
          go_wp2_with fail
          have H := specPathOfMatching_any _ _ _ r_f
          refine H.mono ?_; clear H; rintro e w16 ⟨rfl, b⟩
          have B16 := below_then B15 b
          replace r_f := r_f.below b
          clear B15 b
          go_wp2_with fail
          have H := to_below (implIsMatching_any _ _ _ r_f)
          refine H.mono ?_; clear H; rintro e w17 ⟨rfl, b⟩
          have B17 := below_then B16 b
          replace r_f := r_f.below b
          clear B16 b
          go_wp2_with fail
          have H := to_below (specIsMatching_any _ _ _ r_f)
          refine H.mono ?_; clear H; rintro e w18 ⟨rfl, b⟩
          have B18 := below_then B17 b
          replace r_f := r_f.below b
          clear B17 b
          go_wp2_with fail
          have H := to_below (implCrossingsOf_any _ _ _ r_f)
          refine H.mono ?_; clear H; rintro e w19 ⟨rfl, b⟩
          have B19 := below_then B18 b
          replace r_f := r_f.below b
          clear B18 b
          go_wp2_with fail
          have H := to_below (specCrossingsOf_any _ _ _ r_f)
          refine H.mono ?_; clear H; rintro e w20 ⟨rfl, b⟩
          have B20 := below_then B19 b
          replace r_f := r_f.below b
          clear B19 b
          go_wp2_with fail
          have H := to_below (implNestingsOf_any _ _ _ r_f)
          refine H.mono ?_; clear H; rintro e w21 ⟨rfl, b⟩
          have B21 := below_then B20 b
          replace r_f := r_f.below b
          clear B20 b
          go_wp2_with fail
          have H := to_below (specNestingsOf_any _ _ _ r_f)
          refine H.mono ?_; clear H; rintro e w22 ⟨rfl, b⟩
          have B22 := below_then B21 b
          replace r_f := r_f.below b
          clear B21 b
          go_wp2_with fail
          have H := to_below (implIsNoncrossingMatching_any _ _ _ r_f)
          refine H.mono ?_; clear H; rintro e w23 ⟨rfl, b⟩
          have B23 := below_then B22 b
          replace r_f := r_f.below b
          clear B22 b
          go_wp2_with fail
          have H := to_below (specIsNoncrossingMatching_any _ _ _ r_f)
          refine H.mono ?_; clear H; rintro e w24 ⟨rfl, b⟩
          have B24 := below_then B23 b
          replace r_f := r_f.below b
          clear B23 b
          go_wp2_with fail
          have H := implFormatMatching_any _ _ _ r_f
          refine H.mono ?_; clear H; rintro e w25 ⟨rfl, b⟩
          have B25 := below_then B24 b
          replace r_f := r_f.below b
          clear B24 b
          go_wp2_with fail
          have H := specFormatMatching_any _ _ _ r_f
          refine H.mono ?_; clear H; rintro e w26 ⟨rfl, b⟩
          have B26 := below_then B25 b
          replace r_f := r_f.below b
          clear B25 b
          go_wp2_with fail
          go_ret
          exact ⟨rfl, B26⟩
        · rw [show (mopR xp).2 = false from by unfold mopR; rw [if_neg hP]]
          clear hP
          go_wp2_with fail
          have H := to_below (sameInts_any _ _ _ _ _ r_d r_e)
          rw [decide_eq_true (rfl : (mopR xp).1 = (mopR xp).1)] at H
          refine H.mono ?_; clear H; rintro e w12 ⟨rfl, b⟩
          have B12 := below_then B11 b
          replace r_code := r_code.below b
          replace r_d := r_d.below b
          replace r_e := r_e.below b
          clear B11 b
          go_wp2_with fail
          clear r_d
          clear r_e
          have H := DrawIsMatching_any v bs w12 r_code
          refine H.mono ?_; clear H; rintro e w13 ⟨rf, xf, rfl, r_f, pf, b⟩
          have B13 := below_then B12 b
          replace r_code := r_code.below b
          clear B12 b
          obtain ⟨Af, cf, rfl⟩ := r_f.shape
          go_wp2_with fail
          clear r_code
          have H := implPathOfMatching_any _ _ _ r_f
          refine H.mono ?_; clear H; rintro e w14 ⟨rfl, b⟩
          have B14 := below_then B13 b
          replace r_f := r_f.below b
          clear B13 b
          go_wp2_with fail
          have H := specPathOfMatching_any _ _ _ r_f
          refine H.mono ?_; clear H; rintro e w15 ⟨rfl, b⟩
          have B15 := below_then B14 b
          replace r_f := r_f.below b
          clear B14 b
          go_wp2_with fail
          have H := to_below (implIsMatching_any _ _ _ r_f)
          refine H.mono ?_; clear H; rintro e w16 ⟨rfl, b⟩
          have B16 := below_then B15 b
          replace r_f := r_f.below b
          clear B15 b
          go_wp2_with fail
          have H := to_below (specIsMatching_any _ _ _ r_f)
          refine H.mono ?_; clear H; rintro e w17 ⟨rfl, b⟩
          have B17 := below_then B16 b
          replace r_f := r_f.below b
          clear B16 b
          go_wp2_with fail
          have H := to_below (implCrossingsOf_any _ _ _ r_f)
          refine H.mono ?_; clear H; rintro e w18 ⟨rfl, b⟩
          have B18 := below_then B17 b
          replace r_f := r_f.below b
          clear B17 b
          go_wp2_with fail
          have H := to_below (specCrossingsOf_any _ _ _ r_f)
          refine H.mono ?_; clear H; rintro e w19 ⟨rfl, b⟩
          have B19 := below_then B18 b
          replace r_f := r_f.below b
          clear B18 b
          go_wp2_with fail
          have H := to_below (implNestingsOf_any _ _ _ r_f)
          refine H.mono ?_; clear H; rintro e w20 ⟨rfl, b⟩
          have B20 := below_then B19 b
          replace r_f := r_f.below b
          clear B19 b
          go_wp2_with fail
          have H := to_below (specNestingsOf_any _ _ _ r_f)
          refine H.mono ?_; clear H; rintro e w21 ⟨rfl, b⟩
          have B21 := below_then B20 b
          replace r_f := r_f.below b
          clear B20 b
          go_wp2_with fail
          have H := to_below (implIsNoncrossingMatching_any _ _ _ r_f)
          refine H.mono ?_; clear H; rintro e w22 ⟨rfl, b⟩
          have B22 := below_then B21 b
          replace r_f := r_f.below b
          clear B21 b
          go_wp2_with fail
          have H := to_below (specIsNoncrossingMatching_any _ _ _ r_f)
          refine H.mono ?_; clear H; rintro e w23 ⟨rfl, b⟩
          have B23 := below_then B22 b
          replace r_f := r_f.below b
          clear B22 b
          go_wp2_with fail
          have H := implFormatMatching_any _ _ _ r_f
          refine H.mono ?_; clear H; rintro e w24 ⟨rfl, b⟩
          have B24 := below_then B23 b
          replace r_f := r_f.below b
          clear B23 b
          go_wp2_with fail
          have H := specFormatMatching_any _ _ _ r_f
          refine H.mono ?_; clear H; rintro e w25 ⟨rfl, b⟩
          have B25 := below_then B24 b
          replace r_f := r_f.below b
          clear B24 b
          go_wp2_with fail
          go_ret
          exact ⟨rfl, B25⟩

set_option maxRecDepth 100000 in
theorem lifted (os : Os) (started : os.Started) (H : Type) (enc : TypeId × Value → H) :
    ReturnsInHanded {} Try.checked os 9 .any (Rows.fnMatchingsSpec.pre6 enc Try.prog Try.f9 Rows.fnMatchingsRow.domain false) (Rows.fnMatchingsSpec.post enc Try.prog Try.f9 false true false false) := by
  refine returnsInHanded_of_change (C := Try.checked) own started (by kernel_rfl) Try.func9
    (ChangeSpec.witness6 (enc := enc) (C := Try.checked) false ⟨#[], #[.slice none 0 0], []⟩ 8 (by kernel_rfl) (by kernel_rfl) (by kernel_rfl) (by kernel_rfl)) ?_
  intro W base args ds gs before hval0 hW hcnd _
  have hval : ∀ (j : Nat) t v, Try.f9.params[j]? = some t → args[j]? = some v → Value.okWide Try.prog W .any base t v := hval0
  have hW' := hW
  obtain ⟨p, q, hA0, hV, rfl, hfz, hnd⟩ := hW
  have hA : DataW.TrodAll enc Try.prog W 0 (fun _ => true) true Try.f9.params.toList args.toList ds p := hA0
  rw [Try.params9] at hA hval
  obtain ⟨v0, vs0, d0, ds0, p0, q0, hargs, rfl, rfl, h0, r0⟩ := trodAll_cons hA
  obtain ⟨rfl, rfl, rfl⟩ := trodAll_nil r0
  obtain rfl : args = #[v0] := by cases args; simp_all
  obtain ⟨rfl, rfl⟩ := trodVars_none hV
  obtain ⟨a0, len0, cap0, rfl⟩ := okWide_slice Try.underlying31 (hval 0 31 v0 rfl rfl)
  have k0 := h0
  have lt0 : ∀ x ∈ p0, x.block < W.heap.size := by obtain ⟨m, hm⟩ := k0; exact DataW.trod_lt m _ _ _ hm
  obtain ⟨z0, w0⟩ : ∃ zs, ArgB W (.slice a0 len0 cap0) zs := by
    obtain ⟨fuel, hf⟩ := h0
    rcases open_ints Try.underlying31 Try.underlying5 (by kernel_rfl) hf with ⟨hcs, _⟩ | ⟨x, l, c, zs, hcs, _, hl, hm, hz, _, hcell, hwz⟩
    · simp [Value.cells] at hcs
      obtain ⟨rfl, rfl, rfl⟩ := hcs
      exact ⟨[], ArgB.nil_ _⟩
    · simp [Value.cells] at hcs
      obtain ⟨rfl, rfl, rfl⟩ := hcs
      exact ⟨_, ArgB.of_row hl hm (by simpa using hz) hcell hwz⟩
  clear hA0 hval0
  refine (walk W (.slice a0 len0 cap0) z0 w0).mono fun e W' ⟨he, bel⟩ => ?_
  subst he
  exact ⟨_, rfl, _, _, _, [], _, [], hW', trodAll_mk1 (shut_bool Try.underlying4 _), (trodAll_cons_mk (Below.trod laidOut (by kernel_rfl) (of_decide_eq_true (by kernel_rfl)) k0 bel lt0) trodAll_mk0), rfl, bel.frame _, fun h => by cases h⟩

theorem over : Rows.fnMatchingsRow.holds Try.pinned (OpenSpec.ofChange Rows.fnMatchingsSpec) :=
  OpenClaim.holds_of_wide 9 Try.f9 rfl rfl rfl rfl rfl rfl rfl ⟨rfl, rfl, rfl, rfl, rfl⟩ rfl rfl rfl rfl rfl (by kernel_rfl) Try.func9 (by kernel_rfl)
    (of_decide_eq_true (by kernel_rfl)) (by unfold Func.isWrapper; first | (rw [if_pos (by decide +kernel)]; kernel_rfl) | (rw [if_neg (by decide +kernel)]; exact ⟨rfl, rfl⟩))
    (fun os started H enc _ => lifted os started H enc)

/-- the statement -/
theorem proved : Rows.FnMatchingsSaid := over
#print axioms proved
end Go.Proofs.Ytnkkgfeegaiakaa.matchings
