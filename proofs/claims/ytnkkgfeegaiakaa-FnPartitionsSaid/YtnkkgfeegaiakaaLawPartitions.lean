/- The law FnPartitions returns true at every code: partitions without crossings and paths correspond, blocks are peaks, and turns keep crossings away. No condition. -/
import Derived.Test.YtnkkgfeegaiakaaGround
import Derived.Test.YtnkkgfeegaiakaaDrawPart
import Derived.Test.YtnkkgfeegaiakaaDrawTxt
import Derived.Test.YtnkkgfeegaiakaaTestA
import Derived.Test.YtnkkgfeegaiakaaTestB
import Derived.Test.YtnkkgfeegaiakaaPartPath
import Derived.Test.YtnkkgfeegaiakaaPartCross
import Derived.Test.YtnkkgfeegaiakaaBlocksImpl
import Derived.Test.YtnkkgfeegaiakaaPathStat
import Derived.Test.YtnkkgfeegaiakaaPartTurn
import Derived.Test.YtnkkgfeegaiakaaRenum
import Derived.Test.YtnkkgfeegaiakaaPartNest
import Derived.Test.YtnkkgfeegaiakaaPartNestSpec
import Derived.Test.YtnkkgfeegaiakaaPartFormat
import Derived.Test.YtnkkgfeegaiakaaFnWords
namespace Go.Proofs.Ytnkkgfeegaiakaa.partitions
open Go.ChangeShapes Go.WideShapes Go.ChangeAt Go.RowKit
open Go.ChangeMaps (open_string shut_string)
theorem ppaR_yes (p : List Int) : (ppaR p).2 = decide (NonP p) := by
  unfold ppaR
  by_cases h : NonP p
  · rw [if_pos h, decide_eq_true h]
  · rw [if_neg h, decide_eq_false h]
set_option maxRecDepth 8000 in
set_option maxHeartbeats 8000000 in
theorem walk (w : World) (v : Value) (bs : List UInt8) (h : ArgB w v bs) :
    Calls Try.prog 8 #[v] w fun e w' => e = .returned (.bool true) ∧ Below w.heap.size w w' := by
  have HB := big_any v bs w h
  by_cases hbig : 1048576 < bs.length
  · rw [decide_eq_true hbig] at HB
    go_enter Try.func8, Try.ntmps8
    go_wp2_with fail
    refine HB.mono ?_; rintro e w1 ⟨rfl, rfl⟩
    go_wp2_with fail
    go_ret
    exact ⟨rfl, Below.refl _ _⟩
  · rw [decide_eq_false hbig] at HB
    have r_code : RdR bf w v bs := by
      obtain ⟨A, c, rfl, _, hr⟩ := h
      exact hr (by omega)
    have B0 := Below.refl w.heap.size w
    clear hbig h
    go_enter Try.func8, Try.ntmps8
    go_wp2_with fail
    refine HB.mono ?_; clear HB; rintro e w1 ⟨rfl, rfl⟩
    go_wp2_with fail
    have H := DrawPartitionOf_any v bs w r_code
    refine H.mono ?_; clear H; rintro e w1 ⟨sw, rfl, pw, b⟩
    have B1 := below_then B0 b
    replace r_code := r_code.below b
    clear B0 b
    have hsw := pw.le
    go_wp2_with fail
    have H := implPartitionOf_any sw w1 hsw
    refine H.mono ?_; clear H; rintro e w2 ⟨rP, rfl, oP, b⟩
    have B2 := below_then B1 b
    replace r_code := r_code.below b
    clear B1 b
    have r_P := oP.rd
    clear oP
    go_wp2_with fail
    have H := specPartitionOf_any sw w2 hsw
    refine H.mono ?_; clear H; rintro e w3 ⟨rQ, rfl, oQ, b⟩
    have B3 := below_then B2 b
    replace r_code := r_code.below b
    replace r_P := r_P.below b
    clear B2 b
    have r_Q := oQ.rd
    clear oQ
    by_cases hD : DyckP (L sw)
    · obtain ⟨n1, n2, n3⟩ := path_part (L_short pw hD) hD
      have HYES : Hid ((parR (L sw)).2 = true) := Lib.hid (by unfold parR; rw [if_pos hD])
      have HPP := Lib.hid n2
      have HNN := Lib.hid (decide_eq_true n1)
      have HPK := Lib.hid n3.symm
      clear n1 n2 n3 hD
      go_wp2_with fail
      have H := to_below (sameInts_any _ _ _ _ _ r_P r_Q)
      rw [decide_eq_true (rfl : (parR (L sw)).1 = (parR (L sw)).1)] at H
      refine H.mono ?_; clear H; rintro e w4 ⟨rfl, b⟩
      have B4 := below_then B3 b
      replace r_code := r_code.below b
      replace r_P := r_P.below b
      replace r_Q := r_Q.below b
      clear B3 b
      clear r_P
      rw [HYES.out]
      go_wp2_with fail
      have H := retSB_to (implPathOfPartition_any _ _ _ r_Q) HPP.out (S_L sw)
      refine H.mono ?_; clear H; rintro e w5 ⟨rfl, b⟩
      have B5 := below_then B4 b
      replace r_code := r_code.below b
      replace r_Q := r_Q.below b
      clear B4 b
      go_wp2_with fail
      have H := to_below (implIsNoncrossing_any _ _ _ r_Q)
      rw [HNN.out] at H
      refine H.mono ?_; clear H; rintro e w6 ⟨rfl, b⟩
      have B6 := below_then B5 b
      replace r_code := r_code.below b
      replace r_Q := r_Q.below b
      clear B5 b
      go_wp2_with fail
      have H := implBlocksOf_any _ _ _ r_Q
      refine H.mono ?_; clear H; rintro e w7 ⟨rZ, rfl, oZ, b⟩
      have B7 := below_then B6 b
      replace r_code := r_code.below b
      replace r_Q := r_Q.below b
      clear B6 b
      obtain ⟨A9, c9, rfl, _⟩ := oZ.rd
      clear oZ
      go_wp2_with fail
      have H := implPeaksOf_any sw w7
      rw [HPK.out] at H
      refine H.mono ?_; clear H; rintro e w8 ⟨rfl, b⟩
      have B8 := below_then B7 b
      replace r_code := r_code.below b
      replace r_Q := r_Q.below b
      clear B7 b
      go_wp2_with fail
      clear r_Q
      have H := DrawTurnPartition_any v bs w8 r_code
      refine H.mono ?_; clear H; rintro e w9 ⟨ra, xa, rfl, r_a, pa, b⟩
      have B9 := below_then B8 b
      replace r_code := r_code.below b
      clear B8 b
      obtain ⟨Aa, ca, rfl⟩ := r_a.shape
      go_wp2_with fail
      have H := implTurnPartition_any _ _ _ r_a
      refine H.mono ?_; clear H; rintro e w10 ⟨rb, rfl, ob, b⟩
      have B10 := below_then B9 b
      replace r_code := r_code.below b
      replace r_a := r_a.below b
      clear B9 b
      have r_b := ob.rd
      clear ob
      go_wp2_with fail
      have H := specTurnPartition_any _ _ _ r_a
      refine H.mono ?_; clear H; rintro e w11 ⟨rc, rfl, oc, b⟩
      have B11 := below_then B10 b
      replace r_code := r_code.below b
      replace r_a := r_a.below b
      replace r_b := r_b.below b
      clear B10 b
      have r_c := oc.rd
      clear oc
      by_cases hA : PartP xa
      · have HT := Lib.hid (turn_facts hA pa)
        have HA := Lib.hid hA
        have HPA := Lib.hid pa
        rw [show (tpR xa).2 = true from by rw [tpR_yes, decide_eq_true hA]]
        clear hA
        go_wp2_with fail
        have H := to_below (sameInts_any _ _ _ _ _ r_b r_c)
        rw [decide_eq_true (rfl : (tpR xa).1 = (tpR xa).1)] at H
        refine H.mono ?_; clear H; rintro e w12 ⟨rfl, b⟩
        have B12 := below_then B11 b
        replace r_code := r_code.below b
        replace r_a := r_a.below b
        replace r_b := r_b.below b
        replace r_c := r_c.below b
        clear B11 b
        go_wp2_with fail
        have H := to_below (implIsNoncrossing_any _ _ _ r_c)
        rw [HT.out.non] at H
        refine H.mono ?_; clear H; rintro e w13 ⟨rfl, b⟩
        have B13 := below_then B12 b
        replace r_code := r_code.below b
        replace r_a := r_a.below b
        replace r_b := r_b.below b
        replace r_c := r_c.below b
        clear B12 b
        go_wp2_with fail
        have H := to_below (implIsNoncrossing_any _ _ _ r_a)
        refine H.mono ?_; clear H; rintro e w14 ⟨rfl, b⟩
        have B14 := below_then B13 b
        replace r_code := r_code.below b
        replace r_a := r_a.below b
        replace r_b := r_b.below b
        replace r_c := r_c.below b
        clear B13 b
        go_wp2_with fail
        have H := implBlocksOf_any _ _ _ r_c
        refine H.mono ?_; clear H; rintro e w15 ⟨rZ, rfl, oZ, b⟩
        have B15 := below_then B14 b
        replace r_code := r_code.below b
        replace r_a := r_a.below b
        replace r_b := r_b.below b
        replace r_c := r_c.below b
        clear B14 b
        obtain ⟨A15, c15, e9, _⟩ := oZ.rd
        rw [HT.out.blocks] at e9
        subst e9
        clear oZ
        go_wp2_with fail
        have H := implBlocksOf_any _ _ _ r_a
        refine H.mono ?_; clear H; rintro e w16 ⟨rZ, rfl, oZ, b⟩
        have B16 := below_then B15 b
        replace r_code := r_code.below b
        replace r_a := r_a.below b
        replace r_b := r_b.below b
        replace r_c := r_c.below b
        clear B15 b
        obtain ⟨A16, c16, e9, _⟩ := oZ.rd
        subst e9
        clear oZ
        go_wp2_with fail
        clear r_c
        go_loopw [11, 12, 15] (fun b one i wr => ∃ k : Nat, i = .int .i64 ((k : Int) + 1) ∧ one = .bool true ∧ (k = 0 ∨ k < xa.length) ∧ RdI wr b (turnsP (k + 1) xa) ∧ Below w16.heap.size w16 wr) (fun _ _ i _ => xa.length - (intOf i).toNat)
        case atStart => exact ⟨0, rfl, rfl, .inl rfl, r_b, Below.refl _ _⟩
        case round =>
          clear r_b
          obtain ⟨k, rfl, rfl, hk, hrd, hB⟩ := hrel
          by_cases hlt : k + 1 < xa.length
          · have hlti : (k : Int) + 1 < (xa.length : Int) := by omega
            have HP := turnsP_facts (k + 1) HA.out HPA.out
            have H := implTurnPartition_any _ _ _ hrd
            have HY : Hid ((tpR (turnsP (k + 1) xa)).2 = true) := Lib.hid (by rw [tpR_yes, decide_eq_true HP.1])
            clear HP
            go_wp2_with fail
            refine H.mono ?_; clear H; rintro e w9 ⟨r9, rfl, o9, b9⟩
            rw [HY.out]
            go_wp2_with fail
            go_roundw
            case rel => exact ⟨k + 1, by go_num, rfl, .inr hlt, by rw [turnsP_snoc]; exact o9.rd, below_then hB b9⟩
            case measure => simp [intOf]; omega
          · have hlti : ¬ (k : Int) + 1 < (xa.length : Int) := by omega
            have hE : turnsP (k + 1) xa = xa := by
              rcases hk with hk | hk
              · subst hk
                by_cases h1 : xa.length = 1
                · have := HT.out.back; rw [h1] at this; exact this
                · have h0 : xa = [] := List.eq_nil_of_length_eq_zero (by omega)
                  subst h0; rfl
              · have := HT.out.back; rw [show xa.length = k + 1 by omega] at this; exact this
            rw [hE] at hrd
            have HK := Lib.hid hk
            clear hE hk hlt
            have B17 := below_then B16 hB
            replace r_code := r_code.below hB
            replace r_a := r_a.below hB
            clear B16 hB
            have r_b := hrd
            clear hrd
            obtain ⟨w17, hwr⟩ : ∃ w17, w17 = wr := ⟨_, rfl⟩
            subst hwr
            go_wp2_with fail
            have H := to_below (sameInts_any _ _ _ _ _ r_b r_a)
            rw [decide_eq_true (rfl : xa = xa)] at H
            refine H.mono ?_; clear H; rintro e w18 ⟨rfl, b⟩
            have B18 := below_then B17 b
            replace r_code := r_code.below b
            replace r_a := r_a.below b
            replace r_b := r_b.below b
            clear B17 b
            go_wp2_with fail
            clear r_a
            clear r_b
            have H := DrawPathOfPartition_any v bs w18 r_code
            refine H.mono ?_; clear H; rintro e w19 ⟨rd, xd, rfl, r_d, pd, b⟩
            have B19 := below_then B18 b
            replace r_code := r_code.below b
            clear B18 b
            obtain ⟨Ad, cd, rfl⟩ := r_d.shape
            go_wp2_with fail
            have H := implPathOfPartition_any _ _ _ r_d
            refine H.mono ?_; clear H; rintro e w20 ⟨rfl, b⟩
            have B20 := below_then B19 b
            replace r_code := r_code.below b
            replace r_d := r_d.below b
            clear B19 b
            go_wp2_with fail
            have H := specPathOfPartition_any _ _ _ r_d
            refine H.mono ?_; clear H; rintro e w21 ⟨rfl, b⟩
            have B21 := below_then B20 b
            replace r_code := r_code.below b
            replace r_d := r_d.below b
            clear B20 b
            go_wp2_with fail
            have H := DrawRenumberBlocks_any v bs w21 r_code
            refine H.mono ?_; clear H; rintro e w22 ⟨re, xe, rfl, r_e, pe, b⟩
            have B22 := below_then B21 b
            replace r_code := r_code.below b
            replace r_d := r_d.below b
            clear B21 b
            obtain ⟨Ae, ce, rfl⟩ := r_e.shape
            go_wp2_with fail
            clear r_code
            have HND := Lib.hid (ppaR_yes xd)
            have H := implRenumberBlocks_any _ _ _ r_e
            refine H.mono ?_; clear H; rintro e w23 ⟨rf, rfl, of, b⟩
            have B23 := below_then B22 b
            replace r_d := r_d.below b
            replace r_e := r_e.below b
            clear B22 b
            have r_f := of.rd
            clear of
            go_wp2_with fail
            have H := specRenumberBlocks_any _ _ _ r_e
            refine H.mono ?_; clear H; rintro e w24 ⟨rg, rfl, og, b⟩
            have B24 := below_then B23 b
            replace r_d := r_d.below b
            replace r_e := r_e.below b
            replace r_f := r_f.below b
            clear B23 b
            have r_g := og.rd
            clear og
            clear r_e
            by_cases hv : (rnR xe).2 = true
            · have HV := Lib.hid hv
              rw [hv]
              clear hv
              go_wp2_with fail
              have H := to_below (implIsNoncrossing_any _ _ _ r_d)
              rw [← HND.out] at H
              refine H.mono ?_; clear H; rintro e w25 ⟨rfl, b⟩
              have B25 := below_then B24 b
              replace r_d := r_d.below b
              replace r_f := r_f.below b
              replace r_g := r_g.below b
              clear B24 b
              go_wp2_with fail
              have H := to_below (sameInts_any _ _ _ _ _ r_f r_g)
              rw [decide_eq_true (rfl : (rnR xe).1 = (rnR xe).1)] at H
              refine H.mono ?_; clear H; rintro e w26 ⟨rfl, b⟩
              have B26 := below_then B25 b
              replace r_d := r_d.below b
              replace r_f := r_f.below b
              replace r_g := r_g.below b
              clear B25 b
              go_wp2_with fail
              clear r_f
              have H := to_below' (implIsPartition_any _ _ _ r_g)
              rw [decide_eq_true (rnR_part HV.out)] at H
              refine H.mono ?_; clear H; rintro e w27 ⟨rfl, b⟩
              have B27 := below_then B26 b
              replace r_d := r_d.below b
              replace r_g := r_g.below b
              clear B26 b
              go_wp2_with fail
              clear r_g
              have H := to_below' (implIsPartition_any _ _ _ r_d)
              refine H.mono ?_; clear H; rintro e w28 ⟨rfl, b⟩
              have B28 := below_then B27 b
              replace r_d := r_d.below b
              clear B27 b
              go_wp2_with fail
              have H := to_below' (specIsPartition_any _ _ _ r_d)
              refine H.mono ?_; clear H; rintro e w29 ⟨rfl, b⟩
              have B29 := below_then B28 b
              replace r_d := r_d.below b
              clear B28 b
              go_wp2_with fail
              have H := implBlocksOf_any _ _ _ r_d
              refine H.mono ?_; clear H; rintro e w30 ⟨rk, rfl, ok, b⟩
              have B30 := below_then B29 b
              replace r_d := r_d.below b
              clear B29 b
              have r_k := ok.rd
              clear ok
              go_wp2_with fail
              have H := specBlocksOf_any _ _ _ r_d
              refine H.mono ?_; clear H; rintro e w31 ⟨rm, rfl, om, b⟩
              have B31 := below_then B30 b
              replace r_d := r_d.below b
              replace r_k := r_k.below b
              clear B30 b
              have r_m := om.rd
              clear om
              go_wp2_with fail
              have H := to_below (sameLists_any _ _ _ _ _ r_k r_m rfl)
              refine H.mono ?_; clear H; rintro e w32 ⟨rfl, b⟩
              have B32 := below_then B31 b
              replace r_d := r_d.below b
              replace r_k := r_k.below b
              replace r_m := r_m.below b
              clear B31 b
              go_wp2_with fail
              clear r_k
              clear r_m
              have H := implIsNonnesting_any _ _ _ r_d
              refine H.mono ?_; clear H; rintro e w33 ⟨rfl, b⟩
              have B33 := below_then B32 b
              replace r_d := r_d.below b
              clear B32 b
              go_wp2_with fail
              have H := specIsNonnesting_any _ _ _ r_d
              refine H.mono ?_; clear H; rintro e w34 ⟨rfl, b⟩
              have B34 := below_then B33 b
              replace r_d := r_d.below b
              clear B33 b
              go_wp2_with fail
              have H := implFormatPartition_any _ _ _ r_d
              refine H.mono ?_; clear H; rintro e w35 ⟨rfl, b⟩
              have B35 := below_then B34 b
              replace r_d := r_d.below b
              clear B34 b
              go_wp2_with fail
              have H := specFormatPartition_any _ _ _ r_d
              refine H.mono ?_; clear H; rintro e w36 ⟨rfl, b⟩
              have B36 := below_then B35 b
              replace r_d := r_d.below b
              clear B35 b
              go_wp2_with fail
              go_ret
              exact ⟨rfl, B36⟩
            · rw [Bool.eq_false_iff.2 hv]
              clear hv
              go_wp2_with fail
              have H := to_below (implIsNoncrossing_any _ _ _ r_d)
              rw [← HND.out] at H
              refine H.mono ?_; clear H; rintro e w25 ⟨rfl, b⟩
              have B25 := below_then B24 b
              replace r_d := r_d.below b
              replace r_f := r_f.below b
              replace r_g := r_g.below b
              clear B24 b
              go_wp2_with fail
              have H := to_below (sameInts_any _ _ _ _ _ r_f r_g)
              rw [decide_eq_true (rfl : (rnR xe).1 = (rnR xe).1)] at H
              refine H.mono ?_; clear H; rintro e w26 ⟨rfl, b⟩
              have B26 := below_then B25 b
              replace r_d := r_d.below b
              replace r_f := r_f.below b
              replace r_g := r_g.below b
              clear B25 b
              go_wp2_with fail
              clear r_f
              clear r_g
              have H := to_below' (implIsPartition_any _ _ _ r_d)
              refine H.mono ?_; clear H; rintro e w27 ⟨rfl, b⟩
              have B27 := below_then B26 b
              replace r_d := r_d.below b
              clear B26 b
              go_wp2_with fail
              have H := to_below' (specIsPartition_any _ _ _ r_d)
              refine H.mono ?_; clear H; rintro e w28 ⟨rfl, b⟩
              have B28 := below_then B27 b
              replace r_d := r_d.below b
              clear B27 b
              go_wp2_with fail
              have H := implBlocksOf_any _ _ _ r_d
              refine H.mono ?_; clear H; rintro e w29 ⟨rk, rfl, ok, b⟩
              have B29 := below_then B28 b
              replace r_d := r_d.below b
              clear B28 b
              have r_k := ok.rd
              clear ok
              go_wp2_with fail
              have H := specBlocksOf_any _ _ _ r_d
              refine H.mono ?_; clear H; rintro e w30 ⟨rm, rfl, om, b⟩
              have B30 := below_then B29 b
              replace r_d := r_d.below b
              replace r_k := r_k.below b
              clear B29 b
              have r_m := om.rd
              clear om
              go_wp2_with fail
              have H := to_below (sameLists_any _ _ _ _ _ r_k r_m rfl)
              refine H.mono ?_; clear H; rintro e w31 ⟨rfl, b⟩
              have B31 := below_then B30 b
              replace r_d := r_d.below b
              replace r_k := r_k.below b
              replace r_m := r_m.below b
              clear B30 b
              go_wp2_with fail
              clear r_k
              clear r_m
              have H := implIsNonnesting_any _ _ _ r_d
              refine H.mono ?_; clear H; rintro e w32 ⟨rfl, b⟩
              have B32 := below_then B31 b
              replace r_d := r_d.below b
              clear B31 b
              go_wp2_with fail
              have H := specIsNonnesting_any _ _ _ r_d
              refine H.mono ?_; clear H; rintro e w33 ⟨rfl, b⟩
              have B33 := below_then B32 b
              replace r_d := r_d.below b
              clear B32 b
              go_wp2_with fail
              have H := implFormatPartition_any _ _ _ r_d
              refine H.mono ?_; clear H; rintro e w34 ⟨rfl, b⟩
              have B34 := below_then B33 b
              replace r_d := r_d.below b
              clear B33 b
              go_wp2_with fail
              have H := specFormatPartition_any _ _ _ r_d
              refine H.mono ?_; clear H; rintro e w35 ⟨rfl, b⟩
              have B35 := below_then B34 b
              replace r_d := r_d.below b
              clear B34 b
              go_wp2_with fail
              go_ret
              exact ⟨rfl, B35⟩
      · rw [show (tpR xa).2 = false from by rw [tpR_yes, decide_eq_false hA]]
        clear hA
        go_wp2_with fail
        have H := to_below (sameInts_any _ _ _ _ _ r_b r_c)
        rw [decide_eq_true (rfl : (tpR xa).1 = (tpR xa).1)] at H
        refine H.mono ?_; clear H; rintro e w12 ⟨rfl, b⟩
        have B12 := below_then B11 b
        replace r_code := r_code.below b
        replace r_a := r_a.below b
        replace r_b := r_b.below b
        replace r_c := r_c.below b
        clear B11 b
        clear r_b
        clear r_c
        clear r_a
        refine ?_
        go_wp2_with fail
        refine wp_loop_rounds 1 ?_
        rw [rounds_succ]
        go_wp2_with fail
        all_goals (
          have H := DrawPathOfPartition_any v bs w12 r_code
          refine H.mono ?_; clear H; rintro e w13 ⟨rd, xd, rfl, r_d, pd, b⟩
          have B13 := below_then B12 b
          replace r_code := r_code.below b
          clear B12 b
          obtain ⟨Ad, cd, rfl⟩ := r_d.shape
          go_wp2_with fail
          have H := implPathOfPartition_any _ _ _ r_d
          refine H.mono ?_; clear H; rintro e w14 ⟨rfl, b⟩
          have B14 := below_then B13 b
          replace r_code := r_code.below b
          replace r_d := r_d.below b
          clear B13 b
          go_wp2_with fail
          have H := specPathOfPartition_any _ _ _ r_d
          refine H.mono ?_; clear H; rintro e w15 ⟨rfl, b⟩
          have B15 := below_then B14 b
          replace r_code := r_code.below b
          replace r_d := r_d.below b
          clear B14 b
          go_wp2_with fail
          have H := DrawRenumberBlocks_any v bs w15 r_code
          refine H.mono ?_; clear H; rintro e w16 ⟨re, xe, rfl, r_e, pe, b⟩
          have B16 := below_then B15 b
          replace r_code := r_code.below b
          replace r_d := r_d.below b
          clear B15 b
          obtain ⟨Ae, ce, rfl⟩ := r_e.shape
          go_wp2_with fail
          clear r_code
          have HND := Lib.hid (ppaR_yes xd)
          have H := implRenumberBlocks_any _ _ _ r_e
          refine H.mono ?_; clear H; rintro e w17 ⟨rf, rfl, of, b⟩
          have B17 := below_then B16 b
          replace r_d := r_d.below b
          replace r_e := r_e.below b
          clear B16 b
          have r_f := of.rd
          clear of
          go_wp2_with fail
          have H := specRenumberBlocks_any _ _ _ r_e
          refine H.mono ?_; clear H; rintro e w18 ⟨rg, rfl, og, b⟩
          have B18 := below_then B17 b
          replace r_d := r_d.below b
          replace r_e := r_e.below b
          replace r_f := r_f.below b
          clear B17 b
          have r_g := og.rd
          clear og
          clear r_e
          by_cases hv : (rnR xe).2 = true
          · have HV := Lib.hid hv
            rw [hv]
            clear hv
            go_wp2_with fail
            have H := to_below (implIsNoncrossing_any _ _ _ r_d)
            rw [← HND.out] at H
            refine H.mono ?_; clear H; rintro e w19 ⟨rfl, b⟩
            have B19 := below_then B18 b
            replace r_d := r_d.below b
            replace r_f := r_f.below b
            replace r_g := r_g.below b
            clear B18 b
            go_wp2_with fail
            have H := to_below (sameInts_any _ _ _ _ _ r_f r_g)
            rw [decide_eq_true (rfl : (rnR xe).1 = (rnR xe).1)] at H
            refine H.mono ?_; clear H; rintro e w20 ⟨rfl, b⟩
            have B20 := below_then B19 b
            replace r_d := r_d.below b
            replace r_f := r_f.below b
            replace r_g := r_g.below b
            clear B19 b
            go_wp2_with fail
            clear r_f
            have H := to_below' (implIsPartition_any _ _ _ r_g)
            rw [decide_eq_true (rnR_part HV.out)] at H
            refine H.mono ?_; clear H; rintro e w21 ⟨rfl, b⟩
            have B21 := below_then B20 b
            replace r_d := r_d.below b
            replace r_g := r_g.below b
            clear B20 b
            go_wp2_with fail
            clear r_g
            have H := to_below' (implIsPartition_any _ _ _ r_d)
            refine H.mono ?_; clear H; rintro e w22 ⟨rfl, b⟩
            have B22 := below_then B21 b
            replace r_d := r_d.below b
            clear B21 b
            go_wp2_with fail
            have H := to_below' (specIsPartition_any _ _ _ r_d)
            refine H.mono ?_; clear H; rintro e w23 ⟨rfl, b⟩
            have B23 := below_then B22 b
            replace r_d := r_d.below b
            clear B22 b
            go_wp2_with fail
            have H := implBlocksOf_any _ _ _ r_d
            refine H.mono ?_; clear H; rintro e w24 ⟨rk, rfl, ok, b⟩
            have B24 := below_then B23 b
            replace r_d := r_d.below b
            clear B23 b
            have r_k := ok.rd
            clear ok
            go_wp2_with fail
            have H := specBlocksOf_any _ _ _ r_d
            refine H.mono ?_; clear H; rintro e w25 ⟨rm, rfl, om, b⟩
            have B25 := below_then B24 b
            replace r_d := r_d.below b
            replace r_k := r_k.below b
            clear B24 b
            have r_m := om.rd
            clear om
            go_wp2_with fail
            have H := to_below (sameLists_any _ _ _ _ _ r_k r_m rfl)
            refine H.mono ?_; clear H; rintro e w26 ⟨rfl, b⟩
            have B26 := below_then B25 b
            replace r_d := r_d.below b
            replace r_k := r_k.below b
            replace r_m := r_m.below b
            clear B25 b
            go_wp2_with fail
            clear r_k
            clear r_m
            have H := implIsNonnesting_any _ _ _ r_d
            refine H.mono ?_; clear H; rintro e w27 ⟨rfl, b⟩
            have B27 := below_then B26 b
            replace r_d := r_d.below b
            clear B26 b
            go_wp2_with fail
            have H := specIsNonnesting_any _ _ _ r_d
            refine H.mono ?_; clear H; rintro e w28 ⟨rfl, b⟩
            have B28 := below_then B27 b
            replace r_d := r_d.below b
            clear B27 b
            go_wp2_with fail
            have H := implFormatPartition_any _ _ _ r_d
            refine H.mono ?_; clear H; rintro e w29 ⟨rfl, b⟩
            have B29 := below_then B28 b
            replace r_d := r_d.below b
            clear B28 b
            go_wp2_with fail
            have H := specFormatPartition_any _ _ _ r_d
            refine H.mono ?_; clear H; rintro e w30 ⟨rfl, b⟩
            have B30 := below_then B29 b
            replace r_d := r_d.below b
            clear B29 b
            go_wp2_with fail
            go_ret
            exact ⟨rfl, B30⟩
          · rw [Bool.eq_false_iff.2 hv]
            clear hv
            go_wp2_with fail
            have H := to_below (implIsNoncrossing_any _ _ _ r_d)
            rw [← HND.out] at H
            refine H.mono ?_; clear H; rintro e w19 ⟨rfl, b⟩
            have B19 := below_then B18 b
            replace r_d := r_d.below b
            replace r_f := r_f.below b
            replace r_g := r_g.below b
            clear B18 b
            go_wp2_with fail
            have H := to_below (sameInts_any _ _ _ _ _ r_f r_g)
            rw [decide_eq_true (rfl : (rnR xe).1 = (rnR xe).1)] at H
            refine H.mono ?_; clear H; rintro e w20 ⟨rfl, b⟩
            have B20 := below_then B19 b
            replace r_d := r_d.below b
            replace r_f := r_f.below b
            replace r_g := r_g.below b
            clear B19 b
            go_wp2_with fail
            clear r_f
            clear r_g
            have H := to_below' (implIsPartition_any _ _ _ r_d)
            refine H.mono ?_; clear H; rintro e w21 ⟨rfl, b⟩
            have B21 := below_then B20 b
            replace r_d := r_d.below b
            clear B20 b
            go_wp2_with fail
            have H := to_below' (specIsPartition_any _ _ _ r_d)
            refine H.mono ?_; clear H; rintro e w22 ⟨rfl, b⟩
            have B22 := below_then B21 b
            replace r_d := r_d.below b
            clear B21 b
            go_wp2_with fail
            have H := implBlocksOf_any _ _ _ r_d
            refine H.mono ?_; clear H; rintro e w23 ⟨rk, rfl, ok, b⟩
            have B23 := below_then B22 b
            replace r_d := r_d.below b
            clear B22 b
            have r_k := ok.rd
            clear ok
            go_wp2_with fail
            have H := specBlocksOf_any _ _ _ r_d
            refine H.mono ?_; clear H; rintro e w24 ⟨rm, rfl, om, b⟩
            have B24 := below_then B23 b
            replace r_d := r_d.below b
            replace r_k := r_k.below b
            clear B23 b
            have r_m := om.rd
            clear om
            go_wp2_with fail
            have H := to_below (sameLists_any _ _ _ _ _ r_k r_m rfl)
            refine H.mono ?_; clear H; rintro e w25 ⟨rfl, b⟩
            have B25 := below_then B24 b
            replace r_d := r_d.below b
            replace r_k := r_k.below b
            replace r_m := r_m.below b
            clear B24 b
            go_wp2_with fail
            clear r_k
            clear r_m
            have H := implIsNonnesting_any _ _ _ r_d
            refine H.mono ?_; clear H; rintro e w26 ⟨rfl, b⟩
            have B26 := below_then B25 b
            replace r_d := r_d.below b
            clear B25 b
            go_wp2_with fail
            have H := specIsNonnesting_any _ _ _ r_d
            refine H.mono ?_; clear H; rintro e w27 ⟨rfl, b⟩
            have B27 := below_then B26 b
            replace r_d := r_d.below b
            clear B26 b
            go_wp2_with fail
            have H := implFormatPartition_any _ _ _ r_d
            refine H.mono ?_; clear H; rintro e w28 ⟨rfl, b⟩
            have B28 := below_then B27 b
            replace r_d := r_d.below b
            clear B27 b
            go_wp2_with fail
            have H := specFormatPartition_any _ _ _ r_d
            refine H.mono ?_; clear H; rintro e w29 ⟨rfl, b⟩
            have B29 := below_then B28 b
            replace r_d := r_d.below b
            clear B28 b
            go_wp2_with fail
            go_ret
            exact ⟨rfl, B29⟩)
    · have HYES : Hid ((parR (L sw)).2 = false) := Lib.hid (by unfold parR; rw [if_neg hD])
      clear hD
      go_wp2_with fail
      have H := to_below (sameInts_any _ _ _ _ _ r_P r_Q)
      rw [decide_eq_true (rfl : (parR (L sw)).1 = (parR (L sw)).1)] at H
      refine H.mono ?_; clear H; rintro e w4 ⟨rfl, b⟩
      have B4 := below_then B3 b
      replace r_code := r_code.below b
      replace r_P := r_P.below b
      replace r_Q := r_Q.below b
      clear B3 b
      clear r_P
      rw [HYES.out]
      go_wp2_with fail
      clear r_Q
      have H := DrawTurnPartition_any v bs w4 r_code
      refine H.mono ?_; clear H; rintro e w5 ⟨ra, xa, rfl, r_a, pa, b⟩
      have B5 := below_then B4 b
      replace r_code := r_code.below b
      clear B4 b
      obtain ⟨Aa, ca, rfl⟩ := r_a.shape
      go_wp2_with fail
      have H := implTurnPartition_any _ _ _ r_a
      refine H.mono ?_; clear H; rintro e w6 ⟨rb, rfl, ob, b⟩
      have B6 := below_then B5 b
      replace r_code := r_code.below b
      replace r_a := r_a.below b
      clear B5 b
      have r_b := ob.rd
      clear ob
      go_wp2_with fail
      have H := specTurnPartition_any _ _ _ r_a
      refine H.mono ?_; clear H; rintro e w7 ⟨rc, rfl, oc, b⟩
      have B7 := below_then B6 b
      replace r_code := r_code.below b
      replace r_a := r_a.below b
      replace r_b := r_b.below b
      clear B6 b
      have r_c := oc.rd
      clear oc
      by_cases hA : PartP xa
      · have HT := Lib.hid (turn_facts hA pa)
        have HA := Lib.hid hA
        have HPA := Lib.hid pa
        rw [show (tpR xa).2 = true from by rw [tpR_yes, decide_eq_true hA]]
        clear hA
        go_wp2_with fail
        have H := to_below (sameInts_any _ _ _ _ _ r_b r_c)
        rw [decide_eq_true (rfl : (tpR xa).1 = (tpR xa).1)] at H
        refine H.mono ?_; clear H; rintro e w8 ⟨rfl, b⟩
        have B8 := below_then B7 b
        replace r_code := r_code.below b
        replace r_a := r_a.below b
        replace r_b := r_b.below b
        replace r_c := r_c.below b
        clear B7 b
        go_wp2_with fail
        have H := to_below (implIsNoncrossing_any _ _ _ r_c)
        rw [HT.out.non] at H
        refine H.mono ?_; clear H; rintro e w9 ⟨rfl, b⟩
        have B9 := below_then B8 b
        replace r_code := r_code.below b
        replace r_a := r_a.below b
        replace r_b := r_b.below b
        replace r_c := r_c.below b
        clear B8 b
        go_wp2_with fail
        have H := to_below (implIsNoncrossing_any _ _ _ r_a)
        refine H.mono ?_; clear H; rintro e w10 ⟨rfl, b⟩
        have B10 := below_then B9 b
        replace r_code := r_code.below b
        replace r_a := r_a.below b
        replace r_b := r_b.below b
        replace r_c := r_c.below b
        clear B9 b
        go_wp2_with fail
        have H := implBlocksOf_any _ _ _ r_c
        refine H.mono ?_; clear H; rintro e w11 ⟨rZ, rfl, oZ, b⟩
        have B11 := below_then B10 b
        replace r_code := r_code.below b
        replace r_a := r_a.below b
        replace r_b := r_b.below b
        replace r_c := r_c.below b
        clear B10 b
        obtain ⟨A11, c11, e9, _⟩ := oZ.rd
        rw [HT.out.blocks] at e9
        subst e9
        clear oZ
        go_wp2_with fail
        have H := implBlocksOf_any _ _ _ r_a
        refine H.mono ?_; clear H; rintro e w12 ⟨rZ, rfl, oZ, b⟩
        have B12 := below_then B11 b
        replace r_code := r_code.below b
        replace r_a := r_a.below b
        replace r_b := r_b.below b
        replace r_c := r_c.below b
        clear B11 b
        obtain ⟨A12, c12, e9, _⟩ := oZ.rd
        subst e9
        clear oZ
        go_wp2_with fail
        clear r_c
        go_loopw [11, 12, 15] (fun b one i wr => ∃ k : Nat, i = .int .i64 ((k : Int) + 1) ∧ one = .bool true ∧ (k = 0 ∨ k < xa.length) ∧ RdI wr b (turnsP (k + 1) xa) ∧ Below w12.heap.size w12 wr) (fun _ _ i _ => xa.length - (intOf i).toNat)
        case atStart => exact ⟨0, rfl, rfl, .inl rfl, r_b, Below.refl _ _⟩
        case round =>
          clear r_b
          obtain ⟨k, rfl, rfl, hk, hrd, hB⟩ := hrel
          by_cases hlt : k + 1 < xa.length
          · have hlti : (k : Int) + 1 < (xa.length : Int) := by omega
            have HP := turnsP_facts (k + 1) HA.out HPA.out
            have H := implTurnPartition_any _ _ _ hrd
            have HY : Hid ((tpR (turnsP (k + 1) xa)).2 = true) := Lib.hid (by rw [tpR_yes, decide_eq_true HP.1])
            clear HP
            go_wp2_with fail
            refine H.mono ?_; clear H; rintro e w9 ⟨r9, rfl, o9, b9⟩
            rw [HY.out]
            go_wp2_with fail
            go_roundw
            case rel => exact ⟨k + 1, by go_num, rfl, .inr hlt, by rw [turnsP_snoc]; exact o9.rd, below_then hB b9⟩
            case measure => simp [intOf]; omega
          · have hlti : ¬ (k : Int) + 1 < (xa.length : Int) := by omega
            have hE : turnsP (k + 1) xa = xa := by
              rcases hk with hk | hk
              · subst hk
                by_cases h1 : xa.length = 1
                · have := HT.out.back; rw [h1] at this; exact this
                · have h0 : xa = [] := List.eq_nil_of_length_eq_zero (by omega)
                  subst h0; rfl
              · have := HT.out.back; rw [show xa.length = k + 1 by omega] at this; exact this
            rw [hE] at hrd
            have HK := Lib.hid hk
            clear hE hk hlt
            have B13 := below_then B12 hB
            replace r_code := r_code.below hB
            replace r_a := r_a.below hB
            clear B12 hB
            have r_b := hrd
            clear hrd
            obtain ⟨w13, hwr⟩ : ∃ w13, w13 = wr := ⟨_, rfl⟩
            subst hwr
            go_wp2_with fail
            have H := to_below (sameInts_any _ _ _ _ _ r_b r_a)
            rw [decide_eq_true (rfl : xa = xa)] at H
            refine H.mono ?_; clear H; rintro e w14 ⟨rfl, b⟩
            have B14 := below_then B13 b
            replace r_code := r_code.below b
            replace r_a := r_a.below b
            replace r_b := r_b.below b
            clear B13 b
            go_wp2_with fail
            clear r_a
            clear r_b
            have H := DrawPathOfPartition_any v bs w14 r_code
            refine H.mono ?_; clear H; rintro e w15 ⟨rd, xd, rfl, r_d, pd, b⟩
            have B15 := below_then B14 b
            replace r_code := r_code.below b
            clear B14 b
            obtain ⟨Ad, cd, rfl⟩ := r_d.shape
            go_wp2_with fail
            have H := implPathOfPartition_any _ _ _ r_d
            refine H.mono ?_; clear H; rintro e w16 ⟨rfl, b⟩
            have B16 := below_then B15 b
            replace r_code := r_code.below b
            replace r_d := r_d.below b
            clear B15 b
            go_wp2_with fail
            have H := specPathOfPartition_any _ _ _ r_d
            refine H.mono ?_; clear H; rintro e w17 ⟨rfl, b⟩
            have B17 := below_then B16 b
            replace r_code := r_code.below b
            replace r_d := r_d.below b
            clear B16 b
            go_wp2_with fail
            have H := DrawRenumberBlocks_any v bs w17 r_code
            refine H.mono ?_; clear H; rintro e w18 ⟨re, xe, rfl, r_e, pe, b⟩
            have B18 := below_then B17 b
            replace r_code := r_code.below b
            replace r_d := r_d.below b
            clear B17 b
            obtain ⟨Ae, ce, rfl⟩ := r_e.shape
            go_wp2_with fail
            clear r_code
            have HND := Lib.hid (ppaR_yes xd)
            have H := implRenumberBlocks_any _ _ _ r_e
            refine H.mono ?_; clear H; rintro e w19 ⟨rf, rfl, of, b⟩
            have B19 := below_then B18 b
            replace r_d := r_d.below b
            replace r_e := r_e.below b
            clear B18 b
            have r_f := of.rd
            clear of
            go_wp2_with fail
            have H := specRenumberBlocks_any _ _ _ r_e
            refine H.mono ?_; clear H; rintro e w20 ⟨rg, rfl, og, b⟩
            have B20 := below_then B19 b
            replace r_d := r_d.below b
            replace r_e := r_e.below b
            replace r_f := r_f.below b
            clear B19 b
            have r_g := og.rd
            clear og
            clear r_e
            by_cases hv : (rnR xe).2 = true
            · have HV := Lib.hid hv
              rw [hv]
              clear hv
              go_wp2_with fail
              have H := to_below (implIsNoncrossing_any _ _ _ r_d)
              rw [← HND.out] at H
              refine H.mono ?_; clear H; rintro e w21 ⟨rfl, b⟩
              have B21 := below_then B20 b
              replace r_d := r_d.below b
              replace r_f := r_f.below b
              replace r_g := r_g.below b
              clear B20 b
              go_wp2_with fail
              have H := to_below (sameInts_any _ _ _ _ _ r_f r_g)
              rw [decide_eq_true (rfl : (rnR xe).1 = (rnR xe).1)] at H
              refine H.mono ?_; clear H; rintro e w22 ⟨rfl, b⟩
              have B22 := below_then B21 b
              replace r_d := r_d.below b
              replace r_f := r_f.below b
              replace r_g := r_g.below b
              clear B21 b
              go_wp2_with fail
              clear r_f
              have H := to_below' (implIsPartition_any _ _ _ r_g)
              rw [decide_eq_true (rnR_part HV.out)] at H
              refine H.mono ?_; clear H; rintro e w23 ⟨rfl, b⟩
              have B23 := below_then B22 b
              replace r_d := r_d.below b
              replace r_g := r_g.below b
              clear B22 b
              go_wp2_with fail
              clear r_g
              have H := to_below' (implIsPartition_any _ _ _ r_d)
              refine H.mono ?_; clear H; rintro e w24 ⟨rfl, b⟩
              have B24 := below_then B23 b
              replace r_d := r_d.below b
              clear B23 b
              go_wp2_with fail
              have H := to_below' (specIsPartition_any _ _ _ r_d)
              refine H.mono ?_; clear H; rintro e w25 ⟨rfl, b⟩
              have B25 := below_then B24 b
              replace r_d := r_d.below b
              clear B24 b
              go_wp2_with fail
              have H := implBlocksOf_any _ _ _ r_d
              refine H.mono ?_; clear H; rintro e w26 ⟨rk, rfl, ok, b⟩
              have B26 := below_then B25 b
              replace r_d := r_d.below b
              clear B25 b
              have r_k := ok.rd
              clear ok
              go_wp2_with fail
              have H := specBlocksOf_any _ _ _ r_d
              refine H.mono ?_; clear H; rintro e w27 ⟨rm, rfl, om, b⟩
              have B27 := below_then B26 b
              replace r_d := r_d.below b
              replace r_k := r_k.below b
              clear B26 b
              have r_m := om.rd
              clear om
              go_wp2_with fail
              have H := to_below (sameLists_any _ _ _ _ _ r_k r_m rfl)
              refine H.mono ?_; clear H; rintro e w28 ⟨rfl, b⟩
              have B28 := below_then B27 b
              replace r_d := r_d.below b
              replace r_k := r_k.below b
              replace r_m := r_m.below b
              clear B27 b
              go_wp2_with fail
              clear r_k
              clear r_m
              have H := implIsNonnesting_any _ _ _ r_d
              refine H.mono ?_; clear H; rintro e w29 ⟨rfl, b⟩
              have B29 := below_then B28 b
              replace r_d := r_d.below b
              clear B28 b
              go_wp2_with fail
              have H := specIsNonnesting_any _ _ _ r_d
              refine H.mono ?_; clear H; rintro e w30 ⟨rfl, b⟩
              have B30 := below_then B29 b
              replace r_d := r_d.below b
              clear B29 b
              go_wp2_with fail
              have H := implFormatPartition_any _ _ _ r_d
              refine H.mono ?_; clear H; rintro e w31 ⟨rfl, b⟩
              have B31 := below_then B30 b
              replace r_d := r_d.below b
              clear B30 b
              go_wp2_with fail
              have H := specFormatPartition_any _ _ _ r_d
              refine H.mono ?_; clear H; rintro e w32 ⟨rfl, b⟩
              have B32 := below_then B31 b
              replace r_d := r_d.below b
              clear B31 b
              go_wp2_with fail
              go_ret
              exact ⟨rfl, B32⟩
            · rw [Bool.eq_false_iff.2 hv]
              clear hv
              go_wp2_with fail
              have H := to_below (implIsNoncrossing_any _ _ _ r_d)
              rw [← HND.out] at H
              refine H.mono ?_; clear H; rintro e w21 ⟨rfl, b⟩
              have B21 := below_then B20 b
              replace r_d := r_d.below b
              replace r_f := r_f.below b
              replace r_g := r_g.below b
              clear B20 b
              go_wp2_with fail
              have H := to_below (sameInts_any _ _ _ _ _ r_f r_g)
              rw [decide_eq_true (rfl : (rnR xe).1 = (rnR xe).1)] at H
              refine H.mono ?_; clear H; rintro e w22 ⟨rfl, b⟩
              have B22 := below_then B21 b
              replace r_d := r_d.below b
              replace r_f := r_f.below b
              replace r_g := r_g.below b
              clear B21 b
              go_wp2_with fail
              clear r_f
              clear r_g
              have H := to_below' (implIsPartition_any _ _ _ r_d)
              refine H.mono ?_; clear H; rintro e w23 ⟨rfl, b⟩
              have B23 := below_then B22 b
              replace r_d := r_d.below b
              clear B22 b
              go_wp2_with fail
              have H := to_below' (specIsPartition_any _ _ _ r_d)
              refine H.mono ?_; clear H; rintro e w24 ⟨rfl, b⟩
              have B24 := below_then B23 b
              replace r_d := r_d.below b
              clear B23 b
              go_wp2_with fail
              have H := implBlocksOf_any _ _ _ r_d
              refine H.mono ?_; clear H; rintro e w25 ⟨rk, rfl, ok, b⟩
              have B25 := below_then B24 b
              replace r_d := r_d.below b
              clear B24 b
              have r_k := ok.rd
              clear ok
              go_wp2_with fail
              have H := specBlocksOf_any _ _ _ r_d
              refine H.mono ?_; clear H; rintro e w26 ⟨rm, rfl, om, b⟩
              have B26 := below_then B25 b
              replace r_d := r_d.below b
              replace r_k := r_k.below b
              clear B25 b
              have r_m := om.rd
              clear om
              go_wp2_with fail
              have H := to_below (sameLists_any _ _ _ _ _ r_k r_m rfl)
              refine H.mono ?_; clear H; rintro e w27 ⟨rfl, b⟩
              have B27 := below_then B26 b
              replace r_d := r_d.below b
              replace r_k := r_k.below b
              replace r_m := r_m.below b
              clear B26 b
              go_wp2_with fail
              clear r_k
              clear r_m
              have H := implIsNonnesting_any _ _ _ r_d
              refine H.mono ?_; clear H; rintro e w28 ⟨rfl, b⟩
              have B28 := below_then B27 b
              replace r_d := r_d.below b
              clear B27 b
              go_wp2_with fail
              have H := specIsNonnesting_any _ _ _ r_d
              refine H.mono ?_; clear H; rintro e w29 ⟨rfl, b⟩
              have B29 := below_then B28 b
              replace r_d := r_d.below b
              clear B28 b
              go_wp2_with fail
              have H := implFormatPartition_any _ _ _ r_d
              refine H.mono ?_; clear H; rintro e w30 ⟨rfl, b⟩
              have B30 := below_then B29 b
              replace r_d := r_d.below b
              clear B29 b
              go_wp2_with fail
              have H := specFormatPartition_any _ _ _ r_d
              refine H.mono ?_; clear H; rintro e w31 ⟨rfl, b⟩
              have B31 := below_then B30 b
              replace r_d := r_d.below b
              clear B30 b
              go_wp2_with fail
              go_ret
              exact ⟨rfl, B31⟩
      · rw [show (tpR xa).2 = false from by rw [tpR_yes, decide_eq_false hA]]
        clear hA
        go_wp2_with fail
        have H := to_below (sameInts_any _ _ _ _ _ r_b r_c)
        rw [decide_eq_true (rfl : (tpR xa).1 = (tpR xa).1)] at H
        refine H.mono ?_; clear H; rintro e w8 ⟨rfl, b⟩
        have B8 := below_then B7 b
        replace r_code := r_code.below b
        replace r_a := r_a.below b
        replace r_b := r_b.below b
        replace r_c := r_c.below b
        clear B7 b
        clear r_b
        clear r_c
        clear r_a
        refine ?_
        go_wp2_with fail
        refine wp_loop_rounds 1 ?_
        rw [rounds_succ]
        go_wp2_with fail
        all_goals (
          have H := DrawPathOfPartition_any v bs w8 r_code
          refine H.mono ?_; clear H; rintro e w9 ⟨rd, xd, rfl, r_d, pd, b⟩
          have B9 := below_then B8 b
          replace r_code := r_code.below b
          clear B8 b
          obtain ⟨Ad, cd, rfl⟩ := r_d.shape
          go_wp2_with fail
          have H := implPathOfPartition_any _ _ _ r_d
          refine H.mono ?_; clear H; rintro e w10 ⟨rfl, b⟩
          have B10 := below_then B9 b
          replace r_code := r_code.below b
          replace r_d := r_d.below b
          clear B9 b
          go_wp2_with fail
          have H := specPathOfPartition_any _ _ _ r_d
          refine H.mono ?_; clear H; rintro e w11 ⟨rfl, b⟩
          have B11 := below_then B10 b
          replace r_code := r_code.below b
          replace r_d := r_d.below b
          clear B10 b
          go_wp2_with fail
          have H := DrawRenumberBlocks_any v bs w11 r_code
          refine H.mono ?_; clear H; rintro e w12 ⟨re, xe, rfl, r_e, pe, b⟩
          have B12 := below_then B11 b
          replace r_code := r_code.below b
          replace r_d := r_d.below b
          clear B11 b
          obtain ⟨Ae, ce, rfl⟩ := r_e.shape
          go_wp2_with fail
          clear r_code
          have HND := Lib.hid (ppaR_yes xd)
          have H := implRenumberBlocks_any _ _ _ r_e
          refine H.mono ?_; clear H; rintro e w13 ⟨rf, rfl, of, b⟩
          have B13 := below_then B12 b
          replace r_d := r_d.below b
          replace r_e := r_e.below b
          clear B12 b
          have r_f := of.rd
          clear of
          go_wp2_with fail
          have H := specRenumberBlocks_any _ _ _ r_e
          refine H.mono ?_; clear H; rintro e w14 ⟨rg, rfl, og, b⟩
          have B14 := below_then B13 b
          replace r_d := r_d.below b
          replace r_e := r_e.below b
          replace r_f := r_f.below b
          clear B13 b
          have r_g := og.rd
          clear og
          clear r_e
          by_cases hv : (rnR xe).2 = true
          · have HV := Lib.hid hv
            rw [hv]
            clear hv
            go_wp2_with fail
            have H := to_below (implIsNoncrossing_any _ _ _ r_d)
            rw [← HND.out] at H
            refine H.mono ?_; clear H; rintro e w15 ⟨rfl, b⟩
            have B15 := below_then B14 b
            replace r_d := r_d.below b
            replace r_f := r_f.below b
            replace r_g := r_g.below b
            clear B14 b
            go_wp2_with fail
            have H := to_below (sameInts_any _ _ _ _ _ r_f r_g)
            rw [decide_eq_true (rfl : (rnR xe).1 = (rnR xe).1)] at H
            refine H.mono ?_; clear H; rintro e w16 ⟨rfl, b⟩
            have B16 := below_then B15 b
            replace r_d := r_d.below b
            replace r_f := r_f.below b
            replace r_g := r_g.below b
            clear B15 b
            go_wp2_with fail
            clear r_f
            have H := to_below' (implIsPartition_any _ _ _ r_g)
            rw [decide_eq_true (rnR_part HV.out)] at H
            refine H.mono ?_; clear H; rintro e w17 ⟨rfl, b⟩
            have B17 := below_then B16 b
            replace r_d := r_d.below b
            replace r_g := r_g.below b
            clear B16 b
            go_wp2_with fail
            clear r_g
            have H := to_below' (implIsPartition_any _ _ _ r_d)
            refine H.mono ?_; clear H; rintro e w18 ⟨rfl, b⟩
            have B18 := below_then B17 b
            replace r_d := r_d.below b
            clear B17 b
            go_wp2_with fail
            have H := to_below' (specIsPartition_any _ _ _ r_d)
            refine H.mono ?_; clear H; rintro e w19 ⟨rfl, b⟩
            have B19 := below_then B18 b
            replace r_d := r_d.below b
            clear B18 b
            go_wp2_with fail
            have H := implBlocksOf_any _ _ _ r_d
            refine H.mono ?_; clear H; rintro e w20 ⟨rk, rfl, ok, b⟩
            have B20 := below_then B19 b
            replace r_d := r_d.below b
            clear B19 b
            have r_k := ok.rd
            clear ok
            go_wp2_with fail
            have H := specBlocksOf_any _ _ _ r_d
            refine H.mono ?_; clear H; rintro e w21 ⟨rm, rfl, om, b⟩
            have B21 := below_then B20 b
            replace r_d := r_d.below b
            replace r_k := r_k.below b
            clear B20 b
            have r_m := om.rd
            clear om
            go_wp2_with fail
            have H := to_below (sameLists_any _ _ _ _ _ r_k r_m rfl)
            refine H.mono ?_; clear H; rintro e w22 ⟨rfl, b⟩
            have B22 := below_then B21 b
            replace r_d := r_d.below b
            replace r_k := r_k.below b
            replace r_m := r_m.below b
            clear B21 b
            go_wp2_with fail
            clear r_k
            clear r_m
            have H := implIsNonnesting_any _ _ _ r_d
            refine H.mono ?_; clear H; rintro e w23 ⟨rfl, b⟩
            have B23 := below_then B22 b
            replace r_d := r_d.below b
            clear B22 b
            go_wp2_with fail
            have H := specIsNonnesting_any _ _ _ r_d
            refine H.mono ?_; clear H; rintro e w24 ⟨rfl, b⟩
            have B24 := below_then B23 b
            replace r_d := r_d.below b
            clear B23 b
            go_wp2_with fail
            have H := implFormatPartition_any _ _ _ r_d
            refine H.mono ?_; clear H; rintro e w25 ⟨rfl, b⟩
            have B25 := below_then B24 b
            replace r_d := r_d.below b
            clear B24 b
            go_wp2_with fail
            have H := specFormatPartition_any _ _ _ r_d
            refine H.mono ?_; clear H; rintro e w26 ⟨rfl, b⟩
            have B26 := below_then B25 b
            replace r_d := r_d.below b
            clear B25 b
            go_wp2_with fail
            go_ret
            exact ⟨rfl, B26⟩
          · rw [Bool.eq_false_iff.2 hv]
            clear hv
            go_wp2_with fail
            have H := to_below (implIsNoncrossing_any _ _ _ r_d)
            rw [← HND.out] at H
            refine H.mono ?_; clear H; rintro e w15 ⟨rfl, b⟩
            have B15 := below_then B14 b
            replace r_d := r_d.below b
            replace r_f := r_f.below b
            replace r_g := r_g.below b
            clear B14 b
            go_wp2_with fail
            have H := to_below (sameInts_any _ _ _ _ _ r_f r_g)
            rw [decide_eq_true (rfl : (rnR xe).1 = (rnR xe).1)] at H
            refine H.mono ?_; clear H; rintro e w16 ⟨rfl, b⟩
            have B16 := below_then B15 b
            replace r_d := r_d.below b
            replace r_f := r_f.below b
            replace r_g := r_g.below b
            clear B15 b
            go_wp2_with fail
            clear r_f
            clear r_g
            have H := to_below' (implIsPartition_any _ _ _ r_d)
            refine H.mono ?_; clear H; rintro e w17 ⟨rfl, b⟩
            have B17 := below_then B16 b
            replace r_d := r_d.below b
            clear B16 b
            go_wp2_with fail
            have H := to_below' (specIsPartition_any _ _ _ r_d)
            refine H.mono ?_; clear H; rintro e w18 ⟨rfl, b⟩
            have B18 := below_then B17 b
            replace r_d := r_d.below b
            clear B17 b
            go_wp2_with fail
            have H := implBlocksOf_any _ _ _ r_d
            refine H.mono ?_; clear H; rintro e w19 ⟨rk, rfl, ok, b⟩
            have B19 := below_then B18 b
            replace r_d := r_d.below b
            clear B18 b
            have r_k := ok.rd
            clear ok
            go_wp2_with fail
            have H := specBlocksOf_any _ _ _ r_d
            refine H.mono ?_; clear H; rintro e w20 ⟨rm, rfl, om, b⟩
            have B20 := below_then B19 b
            replace r_d := r_d.below b
            replace r_k := r_k.below b
            clear B19 b
            have r_m := om.rd
            clear om
            go_wp2_with fail
            have H := to_below (sameLists_any _ _ _ _ _ r_k r_m rfl)
            refine H.mono ?_; clear H; rintro e w21 ⟨rfl, b⟩
            have B21 := below_then B20 b
            replace r_d := r_d.below b
            replace r_k := r_k.below b
            replace r_m := r_m.below b
            clear B20 b
            go_wp2_with fail
            clear r_k
            clear r_m
            have H := implIsNonnesting_any _ _ _ r_d
            refine H.mono ?_; clear H; rintro e w22 ⟨rfl, b⟩
            have B22 := below_then B21 b
            replace r_d := r_d.below b
            clear B21 b
            go_wp2_with fail
            have H := specIsNonnesting_any _ _ _ r_d
            refine H.mono ?_; clear H; rintro e w23 ⟨rfl, b⟩
            have B23 := below_then B22 b
            replace r_d := r_d.below b
            clear B22 b
            go_wp2_with fail
            have H := implFormatPartition_any _ _ _ r_d
            refine H.mono ?_; clear H; rintro e w24 ⟨rfl, b⟩
            have B24 := below_then B23 b
            replace r_d := r_d.below b
            clear B23 b
            go_wp2_with fail
            have H := specFormatPartition_any _ _ _ r_d
            refine H.mono ?_; clear H; rintro e w25 ⟨rfl, b⟩
            have B25 := below_then B24 b
            replace r_d := r_d.below b
            clear B24 b
            go_wp2_with fail
            go_ret
            exact ⟨rfl, B25⟩)

set_option maxRecDepth 100000 in
theorem lifted (os : Os) (started : os.Started) (H : Type) (enc : TypeId × Value → H) :
    ReturnsInHanded {} Try.checked os 8 .any (Rows.fnPartitionsSpec.pre6 enc Try.prog Try.f8 Rows.fnPartitionsRow.domain false) (Rows.fnPartitionsSpec.post enc Try.prog Try.f8 false true false false) := by
  refine returnsInHanded_of_change (C := Try.checked) own started (by kernel_rfl) Try.func8
    (ChangeSpec.witness6 (enc := enc) (C := Try.checked) false ⟨#[], #[.slice none 0 0], []⟩ 8 (by kernel_rfl) (by kernel_rfl) (by kernel_rfl) (by kernel_rfl)) ?_
  intro W base args ds gs before hval0 hW hcnd _
  have hval : ∀ (j : Nat) t v, Try.f8.params[j]? = some t → args[j]? = some v → Value.okWide Try.prog W .any base t v := hval0
  have hW' := hW
  obtain ⟨p, q, hA0, hV, rfl, hfz, hnd⟩ := hW
  have hA : DataW.TrodAll enc Try.prog W 0 (fun _ => true) true Try.f8.params.toList args.toList ds p := hA0
  rw [Try.params8] at hA hval
  obtain ⟨v0, vs0, d0, ds0, p0, q0, hargs, rfl, rfl, h0, r0⟩ := trodAll_cons hA
  obtain ⟨rfl, rfl, rfl⟩ := trodAll_nil r0
  obtain rfl : args = #[v0] := by cases args; simp_all
  obtain ⟨rfl, rfl⟩ := trodVars_none hV
  obtain ⟨a0, len0, cap0, rfl⟩ := okWide_slice Try.underlying31 (hval 0 31 v0 rfl rfl)
  have k0 := h0
  have lt0 : ∀ x ∈ p0, x.block < W.heap.size := by obtain ⟨m, hm⟩ := k0; exact DataW.trod_lt m _ _ _ hm
  obtain ⟨z0, w0⟩ : ∃ zs, ArgB W (.slice a0 len0 cap0) zs := by
    obtain ⟨fuel, hf⟩ := h0
    rcases open_ints Try.underlying31 Try.underlying5 (by kernel_rfl) hf with ⟨hcs, _⟩ | ⟨x, l, c, zs, hcs, _, hl, hm, hz, _, hcell, hwz⟩
    · simp [Value.cells] at hcs
      obtain ⟨rfl, rfl, rfl⟩ := hcs
      exact ⟨[], ArgB.nil_ _⟩
    · simp [Value.cells] at hcs
      obtain ⟨rfl, rfl, rfl⟩ := hcs
      exact ⟨_, ArgB.of_row hl hm (by simpa using hz) hcell hwz⟩
  clear hA0 hval0
  refine (walk W (.slice a0 len0 cap0) z0 w0).mono fun e W' ⟨he, bel⟩ => ?_
  subst he
  exact ⟨_, rfl, _, _, _, [], _, [], hW', trodAll_mk1 (shut_bool Try.underlying4 _), (trodAll_cons_mk (Below.trod laidOut (by kernel_rfl) (of_decide_eq_true (by kernel_rfl)) k0 bel lt0) trodAll_mk0), rfl, bel.frame _, fun h => by cases h⟩

theorem over : Rows.fnPartitionsRow.holds Try.pinned (OpenSpec.ofChange Rows.fnPartitionsSpec) :=
  OpenClaim.holds_of_wide 8 Try.f8 rfl rfl rfl rfl rfl rfl rfl ⟨rfl, rfl, rfl, rfl, rfl⟩ rfl rfl rfl rfl rfl (by kernel_rfl) Try.func8 (by kernel_rfl)
    (of_decide_eq_true (by kernel_rfl)) (by unfold Func.isWrapper; first | (rw [if_pos (by decide +kernel)]; kernel_rfl) | (rw [if_neg (by decide +kernel)]; exact ⟨rfl, rfl⟩))
    (fun os started H enc _ => lifted os started H enc)

/-- the statement -/
theorem proved : Rows.FnPartitionsSaid := over
#print axioms proved
end Go.Proofs.Ytnkkgfeegaiakaa.partitions
