/- The law FnTableaux returns true at every code: tableaux and paths correspond, promotion turns the matching, and evacuation is undone. No condition. -/
import Derived.Test.YtnkkgfeegaiakaaGround
import Derived.Test.YtnkkgfeegaiakaaFnWords
import Derived.Test.YtnkkgfeegaiakaaDrawTab
import Derived.Test.YtnkkgfeegaiakaaDrawTxt
import Derived.Test.YtnkkgfeegaiakaaTabEva
import Derived.Test.YtnkkgfeegaiakaaTabDes
import Derived.Test.YtnkkgfeegaiakaaTabPromo
import Derived.Test.YtnkkgfeegaiakaaTabPromoImpl
import Derived.Test.YtnkkgfeegaiakaaMajor
import Derived.Test.YtnkkgfeegaiakaaMatchOf
import Derived.Test.YtnkkgfeegaiakaaMatchTurn
import Derived.Test.YtnkkgfeegaiakaaMatchPath
namespace Go.Proofs.Ytnkkgfeegaiakaa.tableaux
open Go.ChangeShapes Go.WideShapes Go.ChangeAt Go.RowKit
open Go.ChangeMaps (open_string shut_string)
theorem des_le {t : List (List Int)} (h : TabD t) : (desR t).length ≤ 8 := by
  unfold desR potR
  by_cases hT : TabP t
  · rw [if_pos hT]
    have hd := pot_dyck hT.2
    have hl : (potL (rw_ t 0) (2 * (rw_ t 0).length)).length ≤ 2 * 6 := by rw [potL_len]; unfold TabD at h; omega
    have := tstAll_sound (f := fun l => decide ((desL l l.length).length ≤ 8)) (m := 6) (by decide +kernel) hd hl
    exact of_decide_eq_true this
  · rw [if_neg hT]; simp [desL]
set_option maxRecDepth 8000 in
set_option maxHeartbeats 8000000 in
theorem walk (w : World) (v : Value) (bs : List UInt8) (h : ArgB w v bs) :
    Calls Try.prog 5 #[v] w fun e w' => e = .returned (.bool true) ∧ Below w.heap.size w w' := by
  have HB := big_any v bs w h
  by_cases hbig : 1048576 < bs.length
  · rw [decide_eq_true hbig] at HB
    go_enter Try.func5, Try.ntmps5
    go_wp2_with fail
    refine HB.mono ?_; rintro e w1 ⟨rfl, rfl⟩
    go_wp2_with fail
    go_ret
    exact ⟨rfl, Below.refl _ _⟩
  · rw [decide_eq_false hbig] at HB
    have r_code : RdR bf w v bs := by
      obtain ⟨A, c, rfl, _, hr⟩ := h
      exact hr (by omega)
    have B0 := Below.refl w.heap.size w
    clear hbig h
    go_enter Try.func5, Try.ntmps5
    go_wp2_with fail
    refine HB.mono ?_; clear HB; rintro e w1 ⟨rfl, rfl⟩
    go_wp2_with fail
    have H := DrawPathOfTableau_any v bs w r_code
    refine H.mono ?_; clear H; rintro e w1 ⟨rT, ts, rfl, r_T, pT, b⟩
    have B1 := below_then B0 b
    replace r_code := r_code.below b
    clear B0 b
    obtain ⟨AT, cT, rfl⟩ := r_T.shape
    have HDL := Lib.hid (des_le pT)
    have hdi : ((desR ts).length : Int) ≤ 8 := by have := HDL.out; omega
    by_cases hT : TabP ts
    · obtain ⟨l, hd, hl, e1, e2, e3, e4, e5⟩ := tab_law hT pT
      have HP := Lib.hid e1
      have HT := Lib.hid (decide_eq_true hT)
      have HR : Hid (proR ts = ((proR ts).1, true)) := Lib.hid (by have := pro_yes ts; rw [decide_eq_true hT] at this; rw [← this])
      have HE : Hid (evaR ts = ((evaR ts).1, true)) := Lib.hid (by have := eva_yes ts; rw [decide_eq_true hT] at this; rw [← this])
      have HX := Lib.hid e2
      have HK := Lib.hid e3
      have HY : Hid (potR (proR ts).1 = ((potR (proR ts).1).1, true)) := Lib.hid (by rw [← e4])
      have HL : Hid ((S l).size ≤ 1099511627776) := Lib.hid (by rw [S_size]; omega)
      have HZ := Lib.hid e5
      have HM := Lib.hid (mofR_yes l)
      have HD := Lib.hid hd
      clear hT e1 e2 e3 e4 e5 hl hd
      generalize (proR ts).1 = P at *
      generalize (evaR ts).1 = E at *
      generalize (potR P).1 = y at *
      by_cases hl0 : l = []
      · have f0 : (!(S l).toList.isEmpty) = false := by rw [S_tl, hl0]; rfl
        clear hl0 HZ
        go_wp2_with fail
        have H := implPathOfTableau_any _ _ _ r_T
        rw [HP.out] at H
        refine H.mono ?_; clear H; rintro e w2 ⟨rfl, b⟩
        have B2 := below_then B1 b
        replace r_code := r_code.below b
        replace r_T := r_T.below b
        clear B1 b
        go_wp2_with fail
        have H := specPathOfTableau_any _ _ _ r_T
        rw [HP.out] at H
        refine H.mono ?_; clear H; rintro e w3 ⟨rfl, b⟩
        have B3 := below_then B2 b
        replace r_code := r_code.below b
        replace r_T := r_T.below b
        clear B2 b
        go_wp2_with fail
        have H := implIsTableau_any _ _ _ r_T
        rw [HT.out] at H
        refine H.mono ?_; clear H; rintro e w4 ⟨rfl, b⟩
        have B4 := below_then B3 b
        replace r_code := r_code.below b
        replace r_T := r_T.below b
        clear B3 b
        go_wp2_with fail
        have H := implPromoteTableau_any _ _ _ r_T
        rw [HR.out] at H
        refine H.mono ?_; clear H; rintro e w5 ⟨rA, rfl, oA, b⟩
        have B5 := below_then B4 b
        replace r_code := r_code.below b
        replace r_T := r_T.below b
        clear B4 b
        have r_A := oA.rd
        clear oA
        go_wp2_with fail
        have H := specPromoteTableau_any _ _ _ r_T
        rw [HR.out] at H
        refine H.mono ?_; clear H; rintro e w6 ⟨rB, rfl, oB, b⟩
        have B6 := below_then B5 b
        replace r_code := r_code.below b
        replace r_T := r_T.below b
        replace r_A := r_A.below b
        clear B5 b
        have r_B := oB.rd
        clear oB
        go_wp2_with fail
        have H := implEvacuateTableau_any _ _ _ r_T
        rw [HE.out] at H
        refine H.mono ?_; clear H; rintro e w7 ⟨rC, rfl, oC, b⟩
        have B7 := below_then B6 b
        replace r_code := r_code.below b
        replace r_T := r_T.below b
        replace r_A := r_A.below b
        replace r_B := r_B.below b
        clear B6 b
        have r_C := oC.rd
        clear oC
        go_wp2_with fail
        have H := specEvacuateTableau_any _ _ _ r_T
        rw [HE.out] at H
        refine H.mono ?_; clear H; rintro e w8 ⟨rD, rfl, oD, b⟩
        have B8 := below_then B7 b
        replace r_code := r_code.below b
        replace r_T := r_T.below b
        replace r_A := r_A.below b
        replace r_B := r_B.below b
        replace r_C := r_C.below b
        clear B7 b
        have r_D := oD.rd
        clear oD
        go_wp2_with fail
        have H := to_below (sameLists_any _ _ _ _ _ r_A r_B rfl)
        refine H.mono ?_; clear H; rintro e w9 ⟨rfl, b⟩
        have B9 := below_then B8 b
        replace r_code := r_code.below b
        replace r_T := r_T.below b
        replace r_A := r_A.below b
        replace r_B := r_B.below b
        replace r_C := r_C.below b
        replace r_D := r_D.below b
        clear B8 b
        go_wp2_with fail
        have H := to_below (sameLists_any _ _ _ _ _ r_C r_D rfl)
        refine H.mono ?_; clear H; rintro e w10 ⟨rfl, b⟩
        have B10 := below_then B9 b
        replace r_code := r_code.below b
        replace r_T := r_T.below b
        replace r_A := r_A.below b
        replace r_B := r_B.below b
        replace r_C := r_C.below b
        replace r_D := r_D.below b
        clear B9 b
        go_wp2_with fail
        clear r_A
        clear r_C
        have H := implTableauOf_any (S l) w10 HL.out
        rw [L_S, HX.out] at H
        refine H.mono ?_; clear H; rintro e w11 ⟨rX, rfl, oX, b⟩
        have B11 := below_then B10 b
        replace r_code := r_code.below b
        replace r_T := r_T.below b
        replace r_B := r_B.below b
        replace r_D := r_D.below b
        clear B10 b
        have r_X := oX.rd
        clear oX
        go_wp2_with fail
        have H := implEvacuateTableau_any _ _ _ r_D
        rw [HK.out] at H
        refine H.mono ?_; clear H; rintro e w12 ⟨rK, rfl, oK, b⟩
        have B12 := below_then B11 b
        replace r_code := r_code.below b
        replace r_T := r_T.below b
        replace r_B := r_B.below b
        replace r_D := r_D.below b
        replace r_X := r_X.below b
        clear B11 b
        have r_K := oK.rd
        clear oK
        go_wp2_with fail
        clear r_D
        have H := implPathOfTableau_any _ _ _ r_B
        rw [HY.out] at H
        refine H.mono ?_; clear H; rintro e w13 ⟨rfl, b⟩
        have B13 := below_then B12 b
        replace r_code := r_code.below b
        replace r_T := r_T.below b
        replace r_B := r_B.below b
        replace r_X := r_X.below b
        replace r_K := r_K.below b
        clear B12 b
        go_wp2_with fail
        clear r_B
        have H := to_below (sameLists_any _ _ _ _ _ r_X r_T rfl)
        refine H.mono ?_; clear H; rintro e w14 ⟨rfl, b⟩
        have B14 := below_then B13 b
        replace r_code := r_code.below b
        replace r_T := r_T.below b
        replace r_X := r_X.below b
        replace r_K := r_K.below b
        clear B13 b
        go_wp2_with fail
        have H := to_below (sameLists_any _ _ _ _ _ r_K r_T rfl)
        refine H.mono ?_; clear H; rintro e w15 ⟨rfl, b⟩
        have B15 := below_then B14 b
        replace r_code := r_code.below b
        replace r_T := r_T.below b
        replace r_X := r_X.below b
        replace r_K := r_K.below b
        clear B14 b
        go_wp2_with fail
        clear r_X
        clear r_K
        have H := DrawTableauOf_any v bs w15 r_code
        refine H.mono ?_; clear H; rintro e w16 ⟨se, rfl, pe, b⟩
        have B16 := below_then B15 b
        replace r_code := r_code.below b
        replace r_T := r_T.below b
        clear B15 b
        have hse := pe.le
        go_wp2_with fail
        have H := implTableauOf_any se w16 hse
        refine H.mono ?_; clear H; rintro e w17 ⟨rF, rfl, oF, b⟩
        have B17 := below_then B16 b
        replace r_code := r_code.below b
        replace r_T := r_T.below b
        clear B16 b
        have r_F := oF.rd
        clear oF
        go_wp2_with fail
        have H := specTableauOf_any se w17 hse
        refine H.mono ?_; clear H; rintro e w18 ⟨rG, rfl, oG, b⟩
        have B18 := below_then B17 b
        replace r_code := r_code.below b
        replace r_T := r_T.below b
        replace r_F := r_F.below b
        clear B17 b
        have r_G := oG.rd
        clear oG
        go_wp2_with fail
        have H := DrawMajorOf_any v bs w18 r_code
        refine H.mono ?_; clear H; rintro e w19 ⟨sh, rfl, ph, b⟩
        have B19 := below_then B18 b
        replace r_code := r_code.below b
        replace r_T := r_T.below b
        replace r_F := r_F.below b
        replace r_G := r_G.below b
        clear B18 b
        have hsh := ph.le
        go_wp2_with fail
        clear r_code
        have H := to_below (sameLists_any _ _ _ _ _ r_F r_G rfl)
        refine H.mono ?_; clear H; rintro e w20 ⟨rfl, b⟩
        have B20 := below_then B19 b
        replace r_T := r_T.below b
        replace r_F := r_F.below b
        replace r_G := r_G.below b
        clear B19 b
        go_wp2_with fail
        clear r_F
        clear r_G
        have H := implDescentsOfTableau_any _ _ _ r_T
        refine H.mono ?_; clear H; rintro e w21 ⟨rM, rfl, oM, b⟩
        have B21 := below_then B20 b
        replace r_T := r_T.below b
        clear B20 b
        have r_M := oM.rd
        clear oM
        go_wp2_with fail
        have H := specDescentsOfTableau_any _ _ _ r_T
        refine H.mono ?_; clear H; rintro e w22 ⟨rN, rfl, oN, b⟩
        have B22 := below_then B21 b
        replace r_T := r_T.below b
        replace r_M := r_M.below b
        clear B21 b
        have r_N := oN.rd
        clear oN
        go_wp2_with fail
        have H := to_below (sameInts_any _ _ _ _ _ r_M r_N)
        rw [decide_eq_true (rfl : desR ts = desR ts)] at H
        refine H.mono ?_; clear H; rintro e w23 ⟨rfl, b⟩
        have B23 := below_then B22 b
        replace r_T := r_T.below b
        replace r_M := r_M.below b
        replace r_N := r_N.below b
        clear B22 b
        go_wp2_with fail
        clear r_M
        clear r_N
        have H := implDescentsOfTableau_any _ _ _ r_T
        refine H.mono ?_; clear H; rintro e w24 ⟨rQ, rfl, oQ, b⟩
        have B24 := below_then B23 b
        replace r_T := r_T.below b
        clear B23 b
        obtain ⟨A9, c9, rfl, _⟩ := oQ.rd
        go_wp2_with fail
        have H := implMajorOf_any sh w24 hsh
        refine H.mono ?_; clear H; rintro e w25 ⟨rfl, b⟩
        have B25 := below_then B24 b
        replace r_T := r_T.below b
        clear B24 b
        go_wp2_with fail
        have H := to_below' (specMajorOf_any sh w25 hsh)
        refine H.mono ?_; clear H; rintro e w26 ⟨rfl, b⟩
        have B26 := below_then B25 b
        replace r_T := r_T.below b
        clear B25 b
        go_wp2_with fail
        go_ret
        exact ⟨rfl, B26⟩
      · have f0 : (!(S l).toList.isEmpty) = true := by rw [S_tl]; cases l with | nil => exact absurd rfl hl0 | cons a l => rfl
        have HW := Lib.hid (HZ.out hl0)
        clear hl0 HZ
        go_wp2_with fail
        have H := implPathOfTableau_any _ _ _ r_T
        rw [HP.out] at H
        refine H.mono ?_; clear H; rintro e w2 ⟨rfl, b⟩
        have B2 := below_then B1 b
        replace r_code := r_code.below b
        replace r_T := r_T.below b
        clear B1 b
        go_wp2_with fail
        have H := specPathOfTableau_any _ _ _ r_T
        rw [HP.out] at H
        refine H.mono ?_; clear H; rintro e w3 ⟨rfl, b⟩
        have B3 := below_then B2 b
        replace r_code := r_code.below b
        replace r_T := r_T.below b
        clear B2 b
        go_wp2_with fail
        have H := implIsTableau_any _ _ _ r_T
        rw [HT.out] at H
        refine H.mono ?_; clear H; rintro e w4 ⟨rfl, b⟩
        have B4 := below_then B3 b
        replace r_code := r_code.below b
        replace r_T := r_T.below b
        clear B3 b
        go_wp2_with fail
        have H := implPromoteTableau_any _ _ _ r_T
        rw [HR.out] at H
        refine H.mono ?_; clear H; rintro e w5 ⟨rA, rfl, oA, b⟩
        have B5 := below_then B4 b
        replace r_code := r_code.below b
        replace r_T := r_T.below b
        clear B4 b
        have r_A := oA.rd
        clear oA
        go_wp2_with fail
        have H := specPromoteTableau_any _ _ _ r_T
        rw [HR.out] at H
        refine H.mono ?_; clear H; rintro e w6 ⟨rB, rfl, oB, b⟩
        have B6 := below_then B5 b
        replace r_code := r_code.below b
        replace r_T := r_T.below b
        replace r_A := r_A.below b
        clear B5 b
        have r_B := oB.rd
        clear oB
        go_wp2_with fail
        have H := implEvacuateTableau_any _ _ _ r_T
        rw [HE.out] at H
        refine H.mono ?_; clear H; rintro e w7 ⟨rC, rfl, oC, b⟩
        have B7 := below_then B6 b
        replace r_code := r_code.below b
        replace r_T := r_T.below b
        replace r_A := r_A.below b
        replace r_B := r_B.below b
        clear B6 b
        have r_C := oC.rd
        clear oC
        go_wp2_with fail
        have H := specEvacuateTableau_any _ _ _ r_T
        rw [HE.out] at H
        refine H.mono ?_; clear H; rintro e w8 ⟨rD, rfl, oD, b⟩
        have B8 := below_then B7 b
        replace r_code := r_code.below b
        replace r_T := r_T.below b
        replace r_A := r_A.below b
        replace r_B := r_B.below b
        replace r_C := r_C.below b
        clear B7 b
        have r_D := oD.rd
        clear oD
        go_wp2_with fail
        have H := to_below (sameLists_any _ _ _ _ _ r_A r_B rfl)
        refine H.mono ?_; clear H; rintro e w9 ⟨rfl, b⟩
        have B9 := below_then B8 b
        replace r_code := r_code.below b
        replace r_T := r_T.below b
        replace r_A := r_A.below b
        replace r_B := r_B.below b
        replace r_C := r_C.below b
        replace r_D := r_D.below b
        clear B8 b
        go_wp2_with fail
        have H := to_below (sameLists_any _ _ _ _ _ r_C r_D rfl)
        refine H.mono ?_; clear H; rintro e w10 ⟨rfl, b⟩
        have B10 := below_then B9 b
        replace r_code := r_code.below b
        replace r_T := r_T.below b
        replace r_A := r_A.below b
        replace r_B := r_B.below b
        replace r_C := r_C.below b
        replace r_D := r_D.below b
        clear B9 b
        go_wp2_with fail
        clear r_A
        clear r_C
        have H := implTableauOf_any (S l) w10 HL.out
        rw [L_S, HX.out] at H
        refine H.mono ?_; clear H; rintro e w11 ⟨rX, rfl, oX, b⟩
        have B11 := below_then B10 b
        replace r_code := r_code.below b
        replace r_T := r_T.below b
        replace r_B := r_B.below b
        replace r_D := r_D.below b
        clear B10 b
        have r_X := oX.rd
        clear oX
        go_wp2_with fail
        have H := implEvacuateTableau_any _ _ _ r_D
        rw [HK.out] at H
        refine H.mono ?_; clear H; rintro e w12 ⟨rK, rfl, oK, b⟩
        have B12 := below_then B11 b
        replace r_code := r_code.below b
        replace r_T := r_T.below b
        replace r_B := r_B.below b
        replace r_D := r_D.below b
        replace r_X := r_X.below b
        clear B11 b
        have r_K := oK.rd
        clear oK
        go_wp2_with fail
        clear r_D
        have H := implPathOfTableau_any _ _ _ r_B
        rw [HY.out] at H
        refine H.mono ?_; clear H; rintro e w13 ⟨rfl, b⟩
        have B13 := below_then B12 b
        replace r_code := r_code.below b
        replace r_T := r_T.below b
        replace r_B := r_B.below b
        replace r_X := r_X.below b
        replace r_K := r_K.below b
        clear B12 b
        go_wp2_with fail
        clear r_B
        have H := to_below (sameLists_any _ _ _ _ _ r_X r_T rfl)
        refine H.mono ?_; clear H; rintro e w14 ⟨rfl, b⟩
        have B14 := below_then B13 b
        replace r_code := r_code.below b
        replace r_T := r_T.below b
        replace r_X := r_X.below b
        replace r_K := r_K.below b
        clear B13 b
        go_wp2_with fail
        have H := to_below (sameLists_any _ _ _ _ _ r_K r_T rfl)
        refine H.mono ?_; clear H; rintro e w15 ⟨rfl, b⟩
        have B15 := below_then B14 b
        replace r_code := r_code.below b
        replace r_T := r_T.below b
        replace r_X := r_X.below b
        replace r_K := r_K.below b
        clear B14 b
        go_wp2_with fail
        clear r_X
        clear r_K
        have H := specMatchingOf_any (S l) w15 HL.out
        rw [L_S] at H
        refine H.mono ?_; clear H; rintro e w16 ⟨rm, rfl, om, b⟩
        have B16 := below_then B15 b
        replace r_code := r_code.below b
        replace r_T := r_T.below b
        clear B15 b
        have r_m := om.rd
        clear om
        go_wp2_with fail
        have H := specTurnMatching_any _ _ 1 _ r_m (by unfold I64; omega)
        refine H.mono ?_; clear H; rintro e w17 ⟨rn, rfl, on, b⟩
        have B17 := below_then B16 b
        replace r_code := r_code.below b
        replace r_T := r_T.below b
        replace r_m := r_m.below b
        clear B16 b
        have r_n := on.rd
        clear on
        go_wp2_with fail
        clear r_m
        have H := retSB_to (l := y) (b := (pomR (turnR (mofR l).1 1).1).2) (specPathOfMatching_any _ _ _ r_n) (by rw [HW.out]) rfl
        refine H.mono ?_; clear H; rintro e w18 ⟨rfl, b⟩
        have B18 := below_then B17 b
        replace r_code := r_code.below b
        replace r_T := r_T.below b
        replace r_n := r_n.below b
        clear B17 b
        go_wp2_with fail
        clear r_n
        have H := DrawTableauOf_any v bs w18 r_code
        refine H.mono ?_; clear H; rintro e w19 ⟨se, rfl, pe, b⟩
        have B19 := below_then B18 b
        replace r_code := r_code.below b
        replace r_T := r_T.below b
        clear B18 b
        have hse := pe.le
        go_wp2_with fail
        have H := implTableauOf_any se w19 hse
        refine H.mono ?_; clear H; rintro e w20 ⟨rF, rfl, oF, b⟩
        have B20 := below_then B19 b
        replace r_code := r_code.below b
        replace r_T := r_T.below b
        clear B19 b
        have r_F := oF.rd
        clear oF
        go_wp2_with fail
        have H := specTableauOf_any se w20 hse
        refine H.mono ?_; clear H; rintro e w21 ⟨rG, rfl, oG, b⟩
        have B21 := below_then B20 b
        replace r_code := r_code.below b
        replace r_T := r_T.below b
        replace r_F := r_F.below b
        clear B20 b
        have r_G := oG.rd
        clear oG
        go_wp2_with fail
        have H := DrawMajorOf_any v bs w21 r_code
        refine H.mono ?_; clear H; rintro e w22 ⟨sh, rfl, ph, b⟩
        have B22 := below_then B21 b
        replace r_code := r_code.below b
        replace r_T := r_T.below b
        replace r_F := r_F.below b
        replace r_G := r_G.below b
        clear B21 b
        have hsh := ph.le
        go_wp2_with fail
        clear r_code
        have H := to_below (sameLists_any _ _ _ _ _ r_F r_G rfl)
        refine H.mono ?_; clear H; rintro e w23 ⟨rfl, b⟩
        have B23 := below_then B22 b
        replace r_T := r_T.below b
        replace r_F := r_F.below b
        replace r_G := r_G.below b
        clear B22 b
        go_wp2_with fail
        clear r_F
        clear r_G
        have H := implDescentsOfTableau_any _ _ _ r_T
        refine H.mono ?_; clear H; rintro e w24 ⟨rM, rfl, oM, b⟩
        have B24 := below_then B23 b
        replace r_T := r_T.below b
        clear B23 b
        have r_M := oM.rd
        clear oM
        go_wp2_with fail
        have H := specDescentsOfTableau_any _ _ _ r_T
        refine H.mono ?_; clear H; rintro e w25 ⟨rN, rfl, oN, b⟩
        have B25 := below_then B24 b
        replace r_T := r_T.below b
        replace r_M := r_M.below b
        clear B24 b
        have r_N := oN.rd
        clear oN
        go_wp2_with fail
        have H := to_below (sameInts_any _ _ _ _ _ r_M r_N)
        rw [decide_eq_true (rfl : desR ts = desR ts)] at H
        refine H.mono ?_; clear H; rintro e w26 ⟨rfl, b⟩
        have B26 := below_then B25 b
        replace r_T := r_T.below b
        replace r_M := r_M.below b
        replace r_N := r_N.below b
        clear B25 b
        go_wp2_with fail
        clear r_M
        clear r_N
        have H := implDescentsOfTableau_any _ _ _ r_T
        refine H.mono ?_; clear H; rintro e w27 ⟨rQ, rfl, oQ, b⟩
        have B27 := below_then B26 b
        replace r_T := r_T.below b
        clear B26 b
        obtain ⟨A9, c9, rfl, _⟩ := oQ.rd
        go_wp2_with fail
        have H := implMajorOf_any sh w27 hsh
        refine H.mono ?_; clear H; rintro e w28 ⟨rfl, b⟩
        have B28 := below_then B27 b
        replace r_T := r_T.below b
        clear B27 b
        go_wp2_with fail
        have H := to_below' (specMajorOf_any sh w28 hsh)
        refine H.mono ?_; clear H; rintro e w29 ⟨rfl, b⟩
        have B29 := below_then B28 b
        replace r_T := r_T.below b
        clear B28 b
        go_wp2_with fail
        go_ret
        exact ⟨rfl, B29⟩
    · skip
      have HP : Hid (potR ts = ([], false)) := Lib.hid (by unfold potR; rw [if_neg hT])
      have HT := Lib.hid (decide_eq_false hT)
      have HR : Hid (proR ts = ([], false)) := Lib.hid (by unfold proR; rw [if_neg hT])
      have HE : Hid (evaR ts = ([], false)) := Lib.hid (by unfold evaR; rw [if_neg hT])
      clear hT
      go_wp2_with fail
      have H := implPathOfTableau_any _ _ _ r_T
      rw [HP.out] at H
      refine H.mono ?_; clear H; rintro e w2 ⟨rfl, b⟩
      have B2 := below_then B1 b
      replace r_code := r_code.below b
      replace r_T := r_T.below b
      clear B1 b
      go_wp2_with fail
      have H := specPathOfTableau_any _ _ _ r_T
      rw [HP.out] at H
      refine H.mono ?_; clear H; rintro e w3 ⟨rfl, b⟩
      have B3 := below_then B2 b
      replace r_code := r_code.below b
      replace r_T := r_T.below b
      clear B2 b
      go_wp2_with fail
      have H := implIsTableau_any _ _ _ r_T
      rw [HT.out] at H
      refine H.mono ?_; clear H; rintro e w4 ⟨rfl, b⟩
      have B4 := below_then B3 b
      replace r_code := r_code.below b
      replace r_T := r_T.below b
      clear B3 b
      go_wp2_with fail
      have H := implPromoteTableau_any _ _ _ r_T
      rw [HR.out] at H
      refine H.mono ?_; clear H; rintro e w5 ⟨rA, rfl, oA, b⟩
      have B5 := below_then B4 b
      replace r_code := r_code.below b
      replace r_T := r_T.below b
      clear B4 b
      have r_A := oA.rd
      clear oA
      go_wp2_with fail
      have H := specPromoteTableau_any _ _ _ r_T
      rw [HR.out] at H
      refine H.mono ?_; clear H; rintro e w6 ⟨rB, rfl, oB, b⟩
      have B6 := below_then B5 b
      replace r_code := r_code.below b
      replace r_T := r_T.below b
      replace r_A := r_A.below b
      clear B5 b
      have r_B := oB.rd
      clear oB
      go_wp2_with fail
      have H := implEvacuateTableau_any _ _ _ r_T
      rw [HE.out] at H
      refine H.mono ?_; clear H; rintro e w7 ⟨rC, rfl, oC, b⟩
      have B7 := below_then B6 b
      replace r_code := r_code.below b
      replace r_T := r_T.below b
      replace r_A := r_A.below b
      replace r_B := r_B.below b
      clear B6 b
      have r_C := oC.rd
      clear oC
      go_wp2_with fail
      have H := specEvacuateTableau_any _ _ _ r_T
      rw [HE.out] at H
      refine H.mono ?_; clear H; rintro e w8 ⟨rD, rfl, oD, b⟩
      have B8 := below_then B7 b
      replace r_code := r_code.below b
      replace r_T := r_T.below b
      replace r_A := r_A.below b
      replace r_B := r_B.below b
      replace r_C := r_C.below b
      clear B7 b
      have r_D := oD.rd
      clear oD
      go_wp2_with fail
      have H := to_below (sameLists_any _ _ _ _ _ r_A r_B rfl)
      refine H.mono ?_; clear H; rintro e w9 ⟨rfl, b⟩
      have B9 := below_then B8 b
      replace r_code := r_code.below b
      replace r_T := r_T.below b
      replace r_A := r_A.below b
      replace r_B := r_B.below b
      replace r_C := r_C.below b
      replace r_D := r_D.below b
      clear B8 b
      go_wp2_with fail
      have H := to_below (sameLists_any _ _ _ _ _ r_C r_D rfl)
      refine H.mono ?_; clear H; rintro e w10 ⟨rfl, b⟩
      have B10 := below_then B9 b
      replace r_code := r_code.below b
      replace r_T := r_T.below b
      replace r_A := r_A.below b
      replace r_B := r_B.below b
      replace r_C := r_C.below b
      replace r_D := r_D.below b
      clear B9 b
      go_wp2_with fail
      clear r_A
      clear r_C
      clear r_B
      clear r_D
      have H := DrawTableauOf_any v bs w10 r_code
      refine H.mono ?_; clear H; rintro e w11 ⟨se, rfl, pe, b⟩
      have B11 := below_then B10 b
      replace r_code := r_code.below b
      replace r_T := r_T.below b
      clear B10 b
      have hse := pe.le
      go_wp2_with fail
      have H := implTableauOf_any se w11 hse
      refine H.mono ?_; clear H; rintro e w12 ⟨rF, rfl, oF, b⟩
      have B12 := below_then B11 b
      replace r_code := r_code.below b
      replace r_T := r_T.below b
      clear B11 b
      have r_F := oF.rd
      clear oF
      go_wp2_with fail
      have H := specTableauOf_any se w12 hse
      refine H.mono ?_; clear H; rintro e w13 ⟨rG, rfl, oG, b⟩
      have B13 := below_then B12 b
      replace r_code := r_code.below b
      replace r_T := r_T.below b
      replace r_F := r_F.below b
      clear B12 b
      have r_G := oG.rd
      clear oG
      go_wp2_with fail
      have H := DrawMajorOf_any v bs w13 r_code
      refine H.mono ?_; clear H; rintro e w14 ⟨sh, rfl, ph, b⟩
      have B14 := below_then B13 b
      replace r_code := r_code.below b
      replace r_T := r_T.below b
      replace r_F := r_F.below b
      replace r_G := r_G.below b
      clear B13 b
      have hsh := ph.le
      go_wp2_with fail
      clear r_code
      have H := to_below (sameLists_any _ _ _ _ _ r_F r_G rfl)
      refine H.mono ?_; clear H; rintro e w15 ⟨rfl, b⟩
      have B15 := below_then B14 b
      replace r_T := r_T.below b
      replace r_F := r_F.below b
      replace r_G := r_G.below b
      clear B14 b
      go_wp2_with fail
      clear r_F
      clear r_G
      have H := implDescentsOfTableau_any _ _ _ r_T
      refine H.mono ?_; clear H; rintro e w16 ⟨rM, rfl, oM, b⟩
      have B16 := below_then B15 b
      replace r_T := r_T.below b
      clear B15 b
      have r_M := oM.rd
      clear oM
      go_wp2_with fail
      have H := specDescentsOfTableau_any _ _ _ r_T
      refine H.mono ?_; clear H; rintro e w17 ⟨rN, rfl, oN, b⟩
      have B17 := below_then B16 b
      replace r_T := r_T.below b
      replace r_M := r_M.below b
      clear B16 b
      have r_N := oN.rd
      clear oN
      go_wp2_with fail
      have H := to_below (sameInts_any _ _ _ _ _ r_M r_N)
      rw [decide_eq_true (rfl : desR ts = desR ts)] at H
      refine H.mono ?_; clear H; rintro e w18 ⟨rfl, b⟩
      have B18 := below_then B17 b
      replace r_T := r_T.below b
      replace r_M := r_M.below b
      replace r_N := r_N.below b
      clear B17 b
      go_wp2_with fail
      clear r_M
      clear r_N
      have H := implDescentsOfTableau_any _ _ _ r_T
      refine H.mono ?_; clear H; rintro e w19 ⟨rQ, rfl, oQ, b⟩
      have B19 := below_then B18 b
      replace r_T := r_T.below b
      clear B18 b
      obtain ⟨A9, c9, rfl, _⟩ := oQ.rd
      go_wp2_with fail
      have H := implMajorOf_any sh w19 hsh
      refine H.mono ?_; clear H; rintro e w20 ⟨rfl, b⟩
      have B20 := below_then B19 b
      replace r_T := r_T.below b
      clear B19 b
      go_wp2_with fail
      have H := to_below' (specMajorOf_any sh w20 hsh)
      refine H.mono ?_; clear H; rintro e w21 ⟨rfl, b⟩
      have B21 := below_then B20 b
      replace r_T := r_T.below b
      clear B20 b
      go_wp2_with fail
      go_ret
      exact ⟨rfl, B21⟩

set_option maxRecDepth 100000 in
theorem lifted (os : Os) (started : os.Started) (H : Type) (enc : TypeId × Value → H) :
    ReturnsInHanded {} Try.checked os 5 .any (Rows.fnTableauxSpec.pre6 enc Try.prog Try.f5 Rows.fnTableauxRow.domain false) (Rows.fnTableauxSpec.post enc Try.prog Try.f5 false true false false) := by
  refine returnsInHanded_of_change (C := Try.checked) own started (by kernel_rfl) Try.func5
    (ChangeSpec.witness6 (enc := enc) (C := Try.checked) false ⟨#[], #[.slice none 0 0], []⟩ 8 (by kernel_rfl) (by kernel_rfl) (by kernel_rfl) (by kernel_rfl)) ?_
  intro W base args ds gs before hval0 hW hcnd _
  have hval : ∀ (j : Nat) t v, Try.f5.params[j]? = some t → args[j]? = some v → Value.okWide Try.prog W .any base t v := hval0
  have hW' := hW
  obtain ⟨p, q, hA0, hV, rfl, hfz, hnd⟩ := hW
  have hA : DataW.TrodAll enc Try.prog W 0 (fun _ => true) true Try.f5.params.toList args.toList ds p := hA0
  rw [Try.params5] at hA hval
  obtain ⟨v0, vs0, d0, ds0, p0, q0, hargs, rfl, rfl, h0, r0⟩ := trodAll_cons hA
  obtain ⟨rfl, rfl, rfl⟩ := trodAll_nil r0
  obtain rfl : args = #[v0] := by cases args; simp_all
  obtain ⟨rfl, rfl⟩ := trodVars_none hV
  obtain ⟨a0, len0, cap0, rfl⟩ := okWide_slice Try.underlying31 (hval 0 31 v0 rfl rfl)
  have k0 := h0
  have lt0 : ∀ x ∈ p0, x.block < W.heap.size := by obtain ⟨m, hm⟩ := k0; exact DataW.trod_lt m _ _ _ hm
  obtain ⟨z0, w0⟩ : ∃ zs, ArgB W (.slice a0 len0 cap0) zs := by
    obtain ⟨fuel, hf⟩ := h0
    rcases open_ints Try.underlying31 Try.underlying5 (by kernel_rfl) hf with ⟨hcs, _⟩ | ⟨x, l, c, zs, hcs, _, hl, hm, hz, _, hcell, hwz⟩
    · simp [Value.cells] at hcs
      obtain ⟨rfl, rfl, rfl⟩ := hcs
      exact ⟨[], ArgB.nil_ _⟩
    · simp [Value.cells] at hcs
      obtain ⟨rfl, rfl, rfl⟩ := hcs
      exact ⟨_, ArgB.of_row hl hm (by simpa using hz) hcell hwz⟩
  clear hA0 hval0
  refine (walk W (.slice a0 len0 cap0) z0 w0).mono fun e W' ⟨he, bel⟩ => ?_
  subst he
  exact ⟨_, rfl, _, _, _, [], _, [], hW', trodAll_mk1 (shut_bool Try.underlying4 _), (trodAll_cons_mk (Below.trod laidOut (by kernel_rfl) (of_decide_eq_true (by kernel_rfl)) k0 bel lt0) trodAll_mk0), rfl, bel.frame _, fun h => by cases h⟩

theorem over : Rows.fnTableauxRow.holds Try.pinned (OpenSpec.ofChange Rows.fnTableauxSpec) :=
  OpenClaim.holds_of_wide 5 Try.f5 rfl rfl rfl rfl rfl rfl rfl ⟨rfl, rfl, rfl, rfl, rfl⟩ rfl rfl rfl rfl rfl (by kernel_rfl) Try.func5 (by kernel_rfl)
    (of_decide_eq_true (by kernel_rfl)) (by unfold Func.isWrapper; first | (rw [if_pos (by decide +kernel)]; kernel_rfl) | (rw [if_neg (by decide +kernel)]; exact ⟨rfl, rfl⟩))
    (fun os started H enc _ => lifted os started H enc)

/-- the statement -/
theorem proved : Rows.FnTableauxSaid := over
#print axioms proved
end Go.Proofs.Ytnkkgfeegaiakaa.tableaux
