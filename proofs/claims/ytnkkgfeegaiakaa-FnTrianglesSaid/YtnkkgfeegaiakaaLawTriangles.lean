/- The law FnTriangles returns true at every code: triangulations and trees correspond, triangles are counted, turns lead round, and there are two ears at least. No condition. -/
import Derived.Test.YtnkkgfeegaiakaaGround
import Derived.Test.YtnkkgfeegaiakaaGround2
import Derived.Test.YtnkkgfeegaiakaaDrawTri2
import Derived.Test.YtnkkgfeegaiakaaEars
import Derived.Test.YtnkkgfeegaiakaaFmtDiag
import Derived.Test.YtnkkgfeegaiakaaTreeText
import Derived.Test.YtnkkgfeegaiakaaTriOf
import Derived.Test.YtnkkgfeegaiakaaTriGul
import Derived.Test.YtnkkgfeegaiakaaTriTurnImpl
import Derived.Test.YtnkkgfeegaiakaaPlain37
namespace Go.Proofs.Ytnkkgfeegaiakaa.triangles
open Go.ChangeShapes Go.WideShapes Go.ChangeAt Go.RowKit
open Go.ChangeMaps (open_string shut_string)
theorem bt_yes (n : Int) (d : List (List Int)) : (btR n d).2 = decide (TriP n d) := by
  unfold btR
  by_cases h : TriP n d
  · rw [if_pos h, decide_eq_true h]
  · rw [if_neg h, decide_eq_false h]
set_option maxRecDepth 8000 in
set_option maxHeartbeats 40000000 in
theorem walk (w : World) (v : Value) (bs : List UInt8) (h : ArgB w v bs) :
    Calls Try.prog 11 #[v] w fun e w' => e = .returned (.bool true) ∧ Below w.heap.size w w' := by
  have HB := big_any v bs w h
  by_cases hbig : 1048576 < bs.length
  · rw [decide_eq_true hbig] at HB
    go_enter Try.func11, Try.ntmps11
    go_wp2_with fail
    refine HB.mono ?_; rintro e w1 ⟨rfl, rfl⟩
    go_wp2_with fail
    go_ret
    exact ⟨rfl, Below.refl _ _⟩
  · rw [decide_eq_false hbig] at HB
    have r_code : RdR bf w v bs := by
      obtain ⟨A, c, rfl, _, hr⟩ := h
      exact hr (by omega)
    have B0 := Below.refl w.heap.size w
    clear hbig h
    go_enter Try.func11, Try.ntmps11
    go_wp2_with fail
    refine HB.mono ?_; clear HB; rintro e w1 ⟨rfl, rfl⟩
    go_wp2_with fail
    have H := DrawTriangulationOf_any v bs w r_code
    refine H.mono ?_; clear H; rintro e w1 ⟨st, rfl, pt, b⟩
    have B1 := below_then B0 b
    replace r_code := r_code.below b
    clear B0 b
    have hst : st.size ≤ 1099511627776 := by omega
    go_wp2_with fail
    have H := implTriangulationOf_any st w1 hst
    refine H.mono ?_; clear H; rintro e w2 ⟨rd, rfl, od, b⟩
    have B2 := below_then B1 b
    replace r_code := r_code.below b
    clear B1 b
    have r_d := od.rd
    clear od
    go_wp2_with fail
    have H := specTriangulationOf_any st w2 hst
    refine H.mono ?_; clear H; rintro e w3 ⟨re, rfl, oe, b⟩
    have B3 := below_then B2 b
    replace r_code := r_code.below b
    replace r_d := r_d.below b
    clear B2 b
    have r_e := oe.rd
    clear oe
    rcases hT : ptR (L st) with _ | T
    · rw [tgR_none hT] at r_d r_e ⊢
      clear hT
      go_wp2_with fail
      have H := to_below (sameLists_any _ _ _ _ _ r_d r_e rfl)
      refine H.mono ?_; clear H; rintro e w4 ⟨rfl, b⟩
      have B4 := below_then B3 b
      replace r_code := r_code.below b
      replace r_d := r_d.below b
      replace r_e := r_e.below b
      clear B3 b
      go_wp2_with fail
      clear r_d
      clear r_e
      have H := DrawTurnPolygon_any v bs w4 r_code
      refine H.mono ?_; clear H; rintro e w5 ⟨n7, ra, xa, k7, rfl, hn7, r_a, la, hk7, b⟩
      have B5 := below_then B4 b
      replace r_code := r_code.below b
      clear B4 b
      obtain ⟨Aa, ca, rfl⟩ := r_a.shape
      go_wp2_with fail
      have H := implTurnPolygon_any n7 _ _ k7 _ r_a hn7 hk7
      refine H.mono ?_; clear H; rintro e w6 ⟨rb, rfl, ob, b⟩
      have B6 := below_then B5 b
      replace r_code := r_code.below b
      replace r_a := r_a.below b
      clear B5 b
      have r_b := ob.rd
      clear ob
      go_wp2_with fail
      have H := specTurnPolygon_any n7 _ _ k7 _ r_a hn7 hk7
      refine H.mono ?_; clear H; rintro e w7 ⟨rc, rfl, oc, b⟩
      have B7 := below_then B6 b
      replace r_code := r_code.below b
      replace r_a := r_a.below b
      replace r_b := r_b.below b
      clear B6 b
      have r_c := oc.rd
      clear oc
      by_cases hT : TriP n7 xa ∧ (0 ≤ k7 ∧ k7 ≤ n7 - 1)
      · obtain ⟨hT1, hT2⟩ := hT
        have HBK0 := (turn_tri hT1 hT2).2
        have hE : tnR n7 xa k7 = (putsG [] ltL (xa.map (trow n7 k7)), true) := by unfold tnR; rw [if_pos ⟨hT1, hT2⟩]
        have hnn := hT1.1
        rw [hE] at r_b r_c ⊢
        clear hE
        generalize putsG [] ltL (xa.map (trow n7 k7)) = X7 at *
        obtain ⟨t9, ht9⟩ : ∃ t9, t9 = (n7 - k7) % n7 := ⟨_, rfl⟩
        have hb0 := Int.emod_nonneg (n7 - k7) (b := n7) (by omega)
        have hb1 := Int.emod_lt_of_pos (n7 - k7) (b := n7) (by omega)
        rw [← ht9] at HBK0 hb0 hb1
        have HB := Lib.hid HBK0
        have ew : IntKind.i64.wrap (n7 - k7) = n7 - k7 := IntWalk.i64_in _ (by omega)
        have et : (n7 - k7).tmod n7 = t9 := by rw [ht9]; exact Int.tmod_eq_emod_of_nonneg (by omega)
        have hnz : (n7 == 0) = false := beq_eq_false_iff_ne.2 (by omega)
        have ht64 : I64 t9 := by unfold I64; omega
        clear ht9 HBK0 hT1 hT2
        go_wp2_with fail
        have H := to_below (sameLists_any _ _ _ _ _ r_b r_c rfl)
        refine H.mono ?_; clear H; rintro e w8 ⟨rfl, b⟩
        have B8 := below_then B7 b
        replace r_code := r_code.below b
        replace r_a := r_a.below b
        replace r_b := r_b.below b
        replace r_c := r_c.below b
        clear B7 b
        go_wp2_with fail
        clear r_b
        have H := implTurnPolygon_any n7 _ _ t9 _ r_c hn7 ht64
        rw [HB.out] at H
        refine H.mono ?_; clear H; rintro e w9 ⟨rg, rfl, og, b⟩
        have B9 := below_then B8 b
        replace r_code := r_code.below b
        replace r_a := r_a.below b
        replace r_c := r_c.below b
        clear B8 b
        have r_g := og.rd
        clear og
        go_wp2_with fail
        clear r_c
        have H := to_below (sameLists_any _ _ _ _ _ r_g r_a rfl)
        refine H.mono ?_; clear H; rintro e w10 ⟨rfl, b⟩
        have B10 := below_then B9 b
        replace r_code := r_code.below b
        replace r_a := r_a.below b
        replace r_g := r_g.below b
        clear B9 b
        go_wp2_with fail
        clear r_g
        clear r_a
        have H := DrawIsTriangulation_any v bs w10 r_code
        refine H.mono ?_; clear H; rintro e w11 ⟨m7, rf, xf, rfl, hm7, r_f, lf, b⟩
        have B11 := below_then B10 b
        replace r_code := r_code.below b
        clear B10 b
        obtain ⟨Af, cf, rfl⟩ := r_f.shape
        have HBY := Lib.hid (bt_yes m7 xf)
        have hlf : (xf.length : Int) ≤ 20 := by omega
        go_wp2_with fail
        have H := implBinaryOfTriangles_any m7 _ _ _ r_f hm7
        refine H.mono ?_; clear H; rintro e w12 ⟨rfl, b⟩
        have B12 := below_then B11 b
        replace r_code := r_code.below b
        replace r_f := r_f.below b
        clear B11 b
        go_wp2_with fail
        have H := specBinaryOfTriangles_any m7 _ _ _ r_f hm7
        refine H.mono ?_; clear H; rintro e w13 ⟨rfl, b⟩
        have B13 := below_then B12 b
        replace r_code := r_code.below b
        replace r_f := r_f.below b
        clear B12 b
        go_wp2_with fail
        have H := implTrianglesOf_any m7 _ _ _ r_f hm7
        refine H.mono ?_; clear H; rintro e w14 ⟨rl, rfl, ol, b⟩
        have B14 := below_then B13 b
        replace r_code := r_code.below b
        replace r_f := r_f.below b
        clear B13 b
        have r_l := ol.rd
        clear ol
        go_wp2_with fail
        have H := specTrianglesOf_any m7 _ _ _ r_f hm7
        refine H.mono ?_; clear H; rintro e w15 ⟨ro, rfl, oo, b⟩
        have B15 := below_then B14 b
        replace r_code := r_code.below b
        replace r_f := r_f.below b
        replace r_l := r_l.below b
        clear B14 b
        have r_o := oo.rd
        clear oo
        go_wp2_with fail
        have H := DrawEarsOf_any v bs w15 r_code
        refine H.mono ?_; clear H; rintro e w16 ⟨g7, rh, xh, rfl, hg7, r_h, lh, b⟩
        have B16 := below_then B15 b
        replace r_code := r_code.below b
        replace r_f := r_f.below b
        replace r_l := r_l.below b
        replace r_o := r_o.below b
        clear B15 b
        clear r_code
        obtain ⟨Ah, ch, rfl⟩ := r_h.shape
        go_wp2_with fail
        have H := to_below (implIsTriangulation_any m7 _ _ _ r_f hm7)
        rw [← HBY.out] at H
        refine H.mono ?_; clear H; rintro e w17 ⟨rfl, b⟩
        have B17 := below_then B16 b
        replace r_f := r_f.below b
        replace r_l := r_l.below b
        replace r_o := r_o.below b
        replace r_h := r_h.below b
        clear B16 b
        go_wp2_with fail
        have H := to_below (sameLists_any _ _ _ _ _ r_l r_o rfl)
        refine H.mono ?_; clear H; rintro e w18 ⟨rfl, b⟩
        have B18 := below_then B17 b
        replace r_f := r_f.below b
        replace r_l := r_l.below b
        replace r_o := r_o.below b
        replace r_h := r_h.below b
        clear B17 b
        go_wp2_with fail
        clear r_l
        clear r_o
        have H := implEarsOf_any g7 _ _ _ r_h hg7
        refine H.mono ?_; clear H; rintro e w19 ⟨rx, rfl, ox, b⟩
        have B19 := below_then B18 b
        replace r_f := r_f.below b
        replace r_h := r_h.below b
        clear B18 b
        have r_x := ox.rd
        clear ox
        go_wp2_with fail
        have H := specEarsOf_any g7 _ _ _ r_h hg7
        refine H.mono ?_; clear H; rintro e w20 ⟨ry, rfl, oy, b⟩
        have B20 := below_then B19 b
        replace r_f := r_f.below b
        replace r_h := r_h.below b
        replace r_x := r_x.below b
        clear B19 b
        have r_y := oy.rd
        clear oy
        go_wp2_with fail
        clear r_h
        have H := to_below (sameInts_any _ _ _ _ _ r_x r_y)
        rw [decide_eq_true (rfl : eaR g7 xh = eaR g7 xh)] at H
        refine H.mono ?_; clear H; rintro e w21 ⟨rfl, b⟩
        have B21 := below_then B20 b
        replace r_f := r_f.below b
        replace r_x := r_x.below b
        replace r_y := r_y.below b
        clear B20 b
        go_wp2_with fail
        clear r_x
        clear r_y
        have H := implFormatDiagonals_any _ _ _ r_f lf
        refine H.mono ?_; clear H; rintro e w22 ⟨rfl, b⟩
        have B22 := below_then B21 b
        replace r_f := r_f.below b
        clear B21 b
        go_wp2_with fail
        have H := specFormatDiagonals_any _ _ _ r_f lf
        refine H.mono ?_; clear H; rintro e w23 ⟨rfl, b⟩
        have B23 := below_then B22 b
        replace r_f := r_f.below b
        clear B22 b
        go_wp2_with fail
        go_ret
        exact ⟨rfl, B23⟩
      · have hE : tnR n7 xa k7 = ([], false) := by unfold tnR; rw [if_neg hT]
        rw [hE] at r_b r_c ⊢
        clear hE hT
        go_wp2_with fail
        have H := to_below (sameLists_any _ _ _ _ _ r_b r_c rfl)
        refine H.mono ?_; clear H; rintro e w8 ⟨rfl, b⟩
        have B8 := below_then B7 b
        replace r_code := r_code.below b
        replace r_a := r_a.below b
        replace r_b := r_b.below b
        replace r_c := r_c.below b
        clear B7 b
        go_wp2_with fail
        clear r_a
        clear r_b
        clear r_c
        have H := DrawIsTriangulation_any v bs w8 r_code
        refine H.mono ?_; clear H; rintro e w9 ⟨m7, rf, xf, rfl, hm7, r_f, lf, b⟩
        have B9 := below_then B8 b
        replace r_code := r_code.below b
        clear B8 b
        obtain ⟨Af, cf, rfl⟩ := r_f.shape
        have HBY := Lib.hid (bt_yes m7 xf)
        have hlf : (xf.length : Int) ≤ 20 := by omega
        go_wp2_with fail
        have H := implBinaryOfTriangles_any m7 _ _ _ r_f hm7
        refine H.mono ?_; clear H; rintro e w10 ⟨rfl, b⟩
        have B10 := below_then B9 b
        replace r_code := r_code.below b
        replace r_f := r_f.below b
        clear B9 b
        go_wp2_with fail
        have H := specBinaryOfTriangles_any m7 _ _ _ r_f hm7
        refine H.mono ?_; clear H; rintro e w11 ⟨rfl, b⟩
        have B11 := below_then B10 b
        replace r_code := r_code.below b
        replace r_f := r_f.below b
        clear B10 b
        go_wp2_with fail
        have H := implTrianglesOf_any m7 _ _ _ r_f hm7
        refine H.mono ?_; clear H; rintro e w12 ⟨rl, rfl, ol, b⟩
        have B12 := below_then B11 b
        replace r_code := r_code.below b
        replace r_f := r_f.below b
        clear B11 b
        have r_l := ol.rd
        clear ol
        go_wp2_with fail
        have H := specTrianglesOf_any m7 _ _ _ r_f hm7
        refine H.mono ?_; clear H; rintro e w13 ⟨ro, rfl, oo, b⟩
        have B13 := below_then B12 b
        replace r_code := r_code.below b
        replace r_f := r_f.below b
        replace r_l := r_l.below b
        clear B12 b
        have r_o := oo.rd
        clear oo
        go_wp2_with fail
        have H := DrawEarsOf_any v bs w13 r_code
        refine H.mono ?_; clear H; rintro e w14 ⟨g7, rh, xh, rfl, hg7, r_h, lh, b⟩
        have B14 := below_then B13 b
        replace r_code := r_code.below b
        replace r_f := r_f.below b
        replace r_l := r_l.below b
        replace r_o := r_o.below b
        clear B13 b
        clear r_code
        obtain ⟨Ah, ch, rfl⟩ := r_h.shape
        go_wp2_with fail
        have H := to_below (implIsTriangulation_any m7 _ _ _ r_f hm7)
        rw [← HBY.out] at H
        refine H.mono ?_; clear H; rintro e w15 ⟨rfl, b⟩
        have B15 := below_then B14 b
        replace r_f := r_f.below b
        replace r_l := r_l.below b
        replace r_o := r_o.below b
        replace r_h := r_h.below b
        clear B14 b
        go_wp2_with fail
        have H := to_below (sameLists_any _ _ _ _ _ r_l r_o rfl)
        refine H.mono ?_; clear H; rintro e w16 ⟨rfl, b⟩
        have B16 := below_then B15 b
        replace r_f := r_f.below b
        replace r_l := r_l.below b
        replace r_o := r_o.below b
        replace r_h := r_h.below b
        clear B15 b
        go_wp2_with fail
        clear r_l
        clear r_o
        have H := implEarsOf_any g7 _ _ _ r_h hg7
        refine H.mono ?_; clear H; rintro e w17 ⟨rx, rfl, ox, b⟩
        have B17 := below_then B16 b
        replace r_f := r_f.below b
        replace r_h := r_h.below b
        clear B16 b
        have r_x := ox.rd
        clear ox
        go_wp2_with fail
        have H := specEarsOf_any g7 _ _ _ r_h hg7
        refine H.mono ?_; clear H; rintro e w18 ⟨ry, rfl, oy, b⟩
        have B18 := below_then B17 b
        replace r_f := r_f.below b
        replace r_h := r_h.below b
        replace r_x := r_x.below b
        clear B17 b
        have r_y := oy.rd
        clear oy
        go_wp2_with fail
        clear r_h
        have H := to_below (sameInts_any _ _ _ _ _ r_x r_y)
        rw [decide_eq_true (rfl : eaR g7 xh = eaR g7 xh)] at H
        refine H.mono ?_; clear H; rintro e w19 ⟨rfl, b⟩
        have B19 := below_then B18 b
        replace r_f := r_f.below b
        replace r_x := r_x.below b
        replace r_y := r_y.below b
        clear B18 b
        go_wp2_with fail
        clear r_x
        clear r_y
        have H := implFormatDiagonals_any _ _ _ r_f lf
        refine H.mono ?_; clear H; rintro e w20 ⟨rfl, b⟩
        have B20 := below_then B19 b
        replace r_f := r_f.below b
        clear B19 b
        go_wp2_with fail
        have H := specFormatDiagonals_any _ _ _ r_f lf
        refine H.mono ?_; clear H; rintro e w21 ⟨rfl, b⟩
        have B21 := below_then B20 b
        replace r_f := r_f.below b
        clear B20 b
        go_wp2_with fail
        go_ret
        exact ⟨rfl, B21⟩
    · rw [tgR_some hT] at r_d r_e ⊢
      have hT1 := (ptR_text.1 hT).1
      have h6 : T.size ≤ 6 := by have h1 := L_len st; rw [hT1, txT_len] at h1; omega
      obtain ⟨f1, f2, f3⟩ := tr_facts h6
      obtain ⟨N, hN⟩ : ∃ N : Int, N = (T.size : Int) + 2 := ⟨_, rfl⟩
      rw [← hN] at f1 f2 f3
      have HND := Lib.hid (ndR_some hT)
      have hNs : (T.size : Int) + 2 = N := hN.symm
      have hNb : 2 ≤ N ∧ N ≤ 8 := by omega
      generalize putsG [] ltL (dgs T) = E7 at *
      have HBT := Lib.hid (show btR N E7 = (txT T, true) by unfold btR; rw [if_pos f1, f2])
      have HST := Lib.hid (show S (txT T) = st by rw [← hT1, S_L])
      have HTO := Lib.hid (show toR N E7 = (trA N E7 N.toNat, true) by unfold toR; rw [if_pos f1])
      have hlen := trA_len f1
      generalize trA N E7 N.toNat = L7 at *
      have HTP := Lib.hid (decide_eq_true f1)
      have HEA := Lib.hid (show eaR N E7 = earL E7 N.toNat by unfold eaR; rw [if_pos f1])
      have HF3 := Lib.hid f3
      have hN64 : I64 N := by unfold I64; omega
      have wN : IntKind.i64.wrap ((T.size : Int) + 2) = N := by rw [hNs]; exact IntWalk.i64_in _ (by omega)
      have wN2 : IntKind.i64.wrap (N - 2) = N - 2 := IntWalk.i64_in _ (by omega)
      have hl2 : ((L7.length : Int) != N - 2) = false := by rw [hlen]; simp
      clear hT hT1 f1 f2 f3 hN hlen
      go_wp2_with fail
      have H := to_below (sameLists_any _ _ _ _ _ r_d r_e rfl)
      refine H.mono ?_; clear H; rintro e w4 ⟨rfl, b⟩
      have B4 := below_then B3 b
      replace r_code := r_code.below b
      replace r_d := r_d.below b
      replace r_e := r_e.below b
      clear B3 b
      go_wp2_with fail
      clear r_d
      have H := to_below' (specNodesOf_any st w4 hst)
      rw [HND.out] at H
      refine H.mono ?_; clear H; rintro e w5 ⟨rfl, b⟩
      have B5 := below_then B4 b
      replace r_code := r_code.below b
      replace r_e := r_e.below b
      clear B4 b
      go_wp2_with fail
      have H := retSB_to (implBinaryOfTriangles_any N _ _ _ r_e hN64) HBT.out HST.out
      refine H.mono ?_; clear H; rintro e w6 ⟨rfl, b⟩
      have B6 := below_then B5 b
      replace r_code := r_code.below b
      replace r_e := r_e.below b
      clear B5 b
      go_wp2_with fail
      have H := implTrianglesOf_any N _ _ _ r_e hN64
      rw [HTO.out] at H
      refine H.mono ?_; clear H; rintro e w7 ⟨rl, rfl, ol, b⟩
      have B7 := below_then B6 b
      replace r_code := r_code.below b
      replace r_e := r_e.below b
      clear B6 b
      have r_l := ol.rd
      clear ol
      obtain ⟨Al, cl, rfl⟩ := r_l.shape
      clear r_l
      go_wp2_with fail
      have H := to_below (implIsTriangulation_any N _ _ _ r_e hN64)
      rw [HTP.out] at H
      refine H.mono ?_; clear H; rintro e w8 ⟨rfl, b⟩
      have B8 := below_then B7 b
      replace r_code := r_code.below b
      replace r_e := r_e.below b
      clear B7 b
      by_cases h3 : 3 < N
      · have HL := Lib.hid (HF3.out h3)
        go_wp2_with fail
        have H := implEarsOf_any N _ _ _ r_e hN64
        rw [HEA.out] at H
        refine H.mono ?_; clear H; rintro e w9 ⟨rz, rfl, oz, b⟩
        have B9 := below_then B8 b
        replace r_code := r_code.below b
        replace r_e := r_e.below b
        clear B8 b
        obtain ⟨Az, cz, rfl, _⟩ := oz.rd
        have hz2 : ¬ ((earL E7 N.toNat).length : Int) < 2 := by have := HL.out; omega
        clear r_e
        go_wp2_with fail
        have H := DrawTurnPolygon_any v bs w9 r_code
        refine H.mono ?_; clear H; rintro e w10 ⟨n7, ra, xa, k7, rfl, hn7, r_a, la, hk7, b⟩
        have B10 := below_then B9 b
        replace r_code := r_code.below b
        clear B9 b
        obtain ⟨Aa, ca, rfl⟩ := r_a.shape
        go_wp2_with fail
        have H := implTurnPolygon_any n7 _ _ k7 _ r_a hn7 hk7
        refine H.mono ?_; clear H; rintro e w11 ⟨rb, rfl, ob, b⟩
        have B11 := below_then B10 b
        replace r_code := r_code.below b
        replace r_a := r_a.below b
        clear B10 b
        have r_b := ob.rd
        clear ob
        go_wp2_with fail
        have H := specTurnPolygon_any n7 _ _ k7 _ r_a hn7 hk7
        refine H.mono ?_; clear H; rintro e w12 ⟨rc, rfl, oc, b⟩
        have B12 := below_then B11 b
        replace r_code := r_code.below b
        replace r_a := r_a.below b
        replace r_b := r_b.below b
        clear B11 b
        have r_c := oc.rd
        clear oc
        by_cases hT : TriP n7 xa ∧ (0 ≤ k7 ∧ k7 ≤ n7 - 1)
        · obtain ⟨hT1, hT2⟩ := hT
          have HBK0 := (turn_tri hT1 hT2).2
          have hE : tnR n7 xa k7 = (putsG [] ltL (xa.map (trow n7 k7)), true) := by unfold tnR; rw [if_pos ⟨hT1, hT2⟩]
          have hnn := hT1.1
          rw [hE] at r_b r_c ⊢
          clear hE
          generalize putsG [] ltL (xa.map (trow n7 k7)) = X7 at *
          obtain ⟨t9, ht9⟩ : ∃ t9, t9 = (n7 - k7) % n7 := ⟨_, rfl⟩
          have hb0 := Int.emod_nonneg (n7 - k7) (b := n7) (by omega)
          have hb1 := Int.emod_lt_of_pos (n7 - k7) (b := n7) (by omega)
          rw [← ht9] at HBK0 hb0 hb1
          have HB := Lib.hid HBK0
          have ew : IntKind.i64.wrap (n7 - k7) = n7 - k7 := IntWalk.i64_in _ (by omega)
          have et : (n7 - k7).tmod n7 = t9 := by rw [ht9]; exact Int.tmod_eq_emod_of_nonneg (by omega)
          have hnz : (n7 == 0) = false := beq_eq_false_iff_ne.2 (by omega)
          have ht64 : I64 t9 := by unfold I64; omega
          clear ht9 HBK0 hT1 hT2
          go_wp2_with fail
          have H := to_below (sameLists_any _ _ _ _ _ r_b r_c rfl)
          refine H.mono ?_; clear H; rintro e w13 ⟨rfl, b⟩
          have B13 := below_then B12 b
          replace r_code := r_code.below b
          replace r_a := r_a.below b
          replace r_b := r_b.below b
          replace r_c := r_c.below b
          clear B12 b
          go_wp2_with fail
          clear r_b
          have H := implTurnPolygon_any n7 _ _ t9 _ r_c hn7 ht64
          rw [HB.out] at H
          refine H.mono ?_; clear H; rintro e w14 ⟨rg, rfl, og, b⟩
          have B14 := below_then B13 b
          replace r_code := r_code.below b
          replace r_a := r_a.below b
          replace r_c := r_c.below b
          clear B13 b
          have r_g := og.rd
          clear og
          go_wp2_with fail
          clear r_c
          have H := to_below (sameLists_any _ _ _ _ _ r_g r_a rfl)
          refine H.mono ?_; clear H; rintro e w15 ⟨rfl, b⟩
          have B15 := below_then B14 b
          replace r_code := r_code.below b
          replace r_a := r_a.below b
          replace r_g := r_g.below b
          clear B14 b
          go_wp2_with fail
          clear r_g
          clear r_a
          have H := DrawIsTriangulation_any v bs w15 r_code
          refine H.mono ?_; clear H; rintro e w16 ⟨m7, rf, xf, rfl, hm7, r_f, lf, b⟩
          have B16 := below_then B15 b
          replace r_code := r_code.below b
          clear B15 b
          obtain ⟨Af, cf, rfl⟩ := r_f.shape
          have HBY := Lib.hid (bt_yes m7 xf)
          have hlf : (xf.length : Int) ≤ 20 := by omega
          go_wp2_with fail
          have H := implBinaryOfTriangles_any m7 _ _ _ r_f hm7
          refine H.mono ?_; clear H; rintro e w17 ⟨rfl, b⟩
          have B17 := below_then B16 b
          replace r_code := r_code.below b
          replace r_f := r_f.below b
          clear B16 b
          go_wp2_with fail
          have H := specBinaryOfTriangles_any m7 _ _ _ r_f hm7
          refine H.mono ?_; clear H; rintro e w18 ⟨rfl, b⟩
          have B18 := below_then B17 b
          replace r_code := r_code.below b
          replace r_f := r_f.below b
          clear B17 b
          go_wp2_with fail
          have H := implTrianglesOf_any m7 _ _ _ r_f hm7
          refine H.mono ?_; clear H; rintro e w19 ⟨rl, rfl, ol, b⟩
          have B19 := below_then B18 b
          replace r_code := r_code.below b
          replace r_f := r_f.below b
          clear B18 b
          have r_l := ol.rd
          clear ol
          go_wp2_with fail
          have H := specTrianglesOf_any m7 _ _ _ r_f hm7
          refine H.mono ?_; clear H; rintro e w20 ⟨ro, rfl, oo, b⟩
          have B20 := below_then B19 b
          replace r_code := r_code.below b
          replace r_f := r_f.below b
          replace r_l := r_l.below b
          clear B19 b
          have r_o := oo.rd
          clear oo
          go_wp2_with fail
          have H := DrawEarsOf_any v bs w20 r_code
          refine H.mono ?_; clear H; rintro e w21 ⟨g7, rh, xh, rfl, hg7, r_h, lh, b⟩
          have B21 := below_then B20 b
          replace r_code := r_code.below b
          replace r_f := r_f.below b
          replace r_l := r_l.below b
          replace r_o := r_o.below b
          clear B20 b
          clear r_code
          obtain ⟨Ah, ch, rfl⟩ := r_h.shape
          go_wp2_with fail
          have H := to_below (implIsTriangulation_any m7 _ _ _ r_f hm7)
          rw [← HBY.out] at H
          refine H.mono ?_; clear H; rintro e w22 ⟨rfl, b⟩
          have B22 := below_then B21 b
          replace r_f := r_f.below b
          replace r_l := r_l.below b
          replace r_o := r_o.below b
          replace r_h := r_h.below b
          clear B21 b
          go_wp2_with fail
          have H := to_below (sameLists_any _ _ _ _ _ r_l r_o rfl)
          refine H.mono ?_; clear H; rintro e w23 ⟨rfl, b⟩
          have B23 := below_then B22 b
          replace r_f := r_f.below b
          replace r_l := r_l.below b
          replace r_o := r_o.below b
          replace r_h := r_h.below b
          clear B22 b
          go_wp2_with fail
          clear r_l
          clear r_o
          have H := implEarsOf_any g7 _ _ _ r_h hg7
          refine H.mono ?_; clear H; rintro e w24 ⟨rx, rfl, ox, b⟩
          have B24 := below_then B23 b
          replace r_f := r_f.below b
          replace r_h := r_h.below b
          clear B23 b
          have r_x := ox.rd
          clear ox
          go_wp2_with fail
          have H := specEarsOf_any g7 _ _ _ r_h hg7
          refine H.mono ?_; clear H; rintro e w25 ⟨ry, rfl, oy, b⟩
          have B25 := below_then B24 b
          replace r_f := r_f.below b
          replace r_h := r_h.below b
          replace r_x := r_x.below b
          clear B24 b
          have r_y := oy.rd
          clear oy
          go_wp2_with fail
          clear r_h
          have H := to_below (sameInts_any _ _ _ _ _ r_x r_y)
          rw [decide_eq_true (rfl : eaR g7 xh = eaR g7 xh)] at H
          refine H.mono ?_; clear H; rintro e w26 ⟨rfl, b⟩
          have B26 := below_then B25 b
          replace r_f := r_f.below b
          replace r_x := r_x.below b
          replace r_y := r_y.below b
          clear B25 b
          go_wp2_with fail
          clear r_x
          clear r_y
          have H := implFormatDiagonals_any _ _ _ r_f lf
          refine H.mono ?_; clear H; rintro e w27 ⟨rfl, b⟩
          have B27 := below_then B26 b
          replace r_f := r_f.below b
          clear B26 b
          go_wp2_with fail
          have H := specFormatDiagonals_any _ _ _ r_f lf
          refine H.mono ?_; clear H; rintro e w28 ⟨rfl, b⟩
          have B28 := below_then B27 b
          replace r_f := r_f.below b
          clear B27 b
          go_wp2_with fail
          go_ret
          exact ⟨rfl, B28⟩
        · have hE : tnR n7 xa k7 = ([], false) := by unfold tnR; rw [if_neg hT]
          rw [hE] at r_b r_c ⊢
          clear hE hT
          go_wp2_with fail
          have H := to_below (sameLists_any _ _ _ _ _ r_b r_c rfl)
          refine H.mono ?_; clear H; rintro e w13 ⟨rfl, b⟩
          have B13 := below_then B12 b
          replace r_code := r_code.below b
          replace r_a := r_a.below b
          replace r_b := r_b.below b
          replace r_c := r_c.below b
          clear B12 b
          go_wp2_with fail
          clear r_a
          clear r_b
          clear r_c
          have H := DrawIsTriangulation_any v bs w13 r_code
          refine H.mono ?_; clear H; rintro e w14 ⟨m7, rf, xf, rfl, hm7, r_f, lf, b⟩
          have B14 := below_then B13 b
          replace r_code := r_code.below b
          clear B13 b
          obtain ⟨Af, cf, rfl⟩ := r_f.shape
          have HBY := Lib.hid (bt_yes m7 xf)
          have hlf : (xf.length : Int) ≤ 20 := by omega
          go_wp2_with fail
          have H := implBinaryOfTriangles_any m7 _ _ _ r_f hm7
          refine H.mono ?_; clear H; rintro e w15 ⟨rfl, b⟩
          have B15 := below_then B14 b
          replace r_code := r_code.below b
          replace r_f := r_f.below b
          clear B14 b
          go_wp2_with fail
          have H := specBinaryOfTriangles_any m7 _ _ _ r_f hm7
          refine H.mono ?_; clear H; rintro e w16 ⟨rfl, b⟩
          have B16 := below_then B15 b
          replace r_code := r_code.below b
          replace r_f := r_f.below b
          clear B15 b
          go_wp2_with fail
          have H := implTrianglesOf_any m7 _ _ _ r_f hm7
          refine H.mono ?_; clear H; rintro e w17 ⟨rl, rfl, ol, b⟩
          have B17 := below_then B16 b
          replace r_code := r_code.below b
          replace r_f := r_f.below b
          clear B16 b
          have r_l := ol.rd
          clear ol
          go_wp2_with fail
          have H := specTrianglesOf_any m7 _ _ _ r_f hm7
          refine H.mono ?_; clear H; rintro e w18 ⟨ro, rfl, oo, b⟩
          have B18 := below_then B17 b
          replace r_code := r_code.below b
          replace r_f := r_f.below b
          replace r_l := r_l.below b
          clear B17 b
          have r_o := oo.rd
          clear oo
          go_wp2_with fail
          have H := DrawEarsOf_any v bs w18 r_code
          refine H.mono ?_; clear H; rintro e w19 ⟨g7, rh, xh, rfl, hg7, r_h, lh, b⟩
          have B19 := below_then B18 b
          replace r_code := r_code.below b
          replace r_f := r_f.below b
          replace r_l := r_l.below b
          replace r_o := r_o.below b
          clear B18 b
          clear r_code
          obtain ⟨Ah, ch, rfl⟩ := r_h.shape
          go_wp2_with fail
          have H := to_below (implIsTriangulation_any m7 _ _ _ r_f hm7)
          rw [← HBY.out] at H
          refine H.mono ?_; clear H; rintro e w20 ⟨rfl, b⟩
          have B20 := below_then B19 b
          replace r_f := r_f.below b
          replace r_l := r_l.below b
          replace r_o := r_o.below b
          replace r_h := r_h.below b
          clear B19 b
          go_wp2_with fail
          have H := to_below (sameLists_any _ _ _ _ _ r_l r_o rfl)
          refine H.mono ?_; clear H; rintro e w21 ⟨rfl, b⟩
          have B21 := below_then B20 b
          replace r_f := r_f.below b
          replace r_l := r_l.below b
          replace r_o := r_o.below b
          replace r_h := r_h.below b
          clear B20 b
          go_wp2_with fail
          clear r_l
          clear r_o
          have H := implEarsOf_any g7 _ _ _ r_h hg7
          refine H.mono ?_; clear H; rintro e w22 ⟨rx, rfl, ox, b⟩
          have B22 := below_then B21 b
          replace r_f := r_f.below b
          replace r_h := r_h.below b
          clear B21 b
          have r_x := ox.rd
          clear ox
          go_wp2_with fail
          have H := specEarsOf_any g7 _ _ _ r_h hg7
          refine H.mono ?_; clear H; rintro e w23 ⟨ry, rfl, oy, b⟩
          have B23 := below_then B22 b
          replace r_f := r_f.below b
          replace r_h := r_h.below b
          replace r_x := r_x.below b
          clear B22 b
          have r_y := oy.rd
          clear oy
          go_wp2_with fail
          clear r_h
          have H := to_below (sameInts_any _ _ _ _ _ r_x r_y)
          rw [decide_eq_true (rfl : eaR g7 xh = eaR g7 xh)] at H
          refine H.mono ?_; clear H; rintro e w24 ⟨rfl, b⟩
          have B24 := below_then B23 b
          replace r_f := r_f.below b
          replace r_x := r_x.below b
          replace r_y := r_y.below b
          clear B23 b
          go_wp2_with fail
          clear r_x
          clear r_y
          have H := implFormatDiagonals_any _ _ _ r_f lf
          refine H.mono ?_; clear H; rintro e w25 ⟨rfl, b⟩
          have B25 := below_then B24 b
          replace r_f := r_f.below b
          clear B24 b
          go_wp2_with fail
          have H := specFormatDiagonals_any _ _ _ r_f lf
          refine H.mono ?_; clear H; rintro e w26 ⟨rfl, b⟩
          have B26 := below_then B25 b
          replace r_f := r_f.below b
          clear B25 b
          go_wp2_with fail
          go_ret
          exact ⟨rfl, B26⟩
      · skip
        clear r_e
        go_wp2_with fail
        have H := DrawTurnPolygon_any v bs w8 r_code
        refine H.mono ?_; clear H; rintro e w9 ⟨n7, ra, xa, k7, rfl, hn7, r_a, la, hk7, b⟩
        have B9 := below_then B8 b
        replace r_code := r_code.below b
        clear B8 b
        obtain ⟨Aa, ca, rfl⟩ := r_a.shape
        go_wp2_with fail
        have H := implTurnPolygon_any n7 _ _ k7 _ r_a hn7 hk7
        refine H.mono ?_; clear H; rintro e w10 ⟨rb, rfl, ob, b⟩
        have B10 := below_then B9 b
        replace r_code := r_code.below b
        replace r_a := r_a.below b
        clear B9 b
        have r_b := ob.rd
        clear ob
        go_wp2_with fail
        have H := specTurnPolygon_any n7 _ _ k7 _ r_a hn7 hk7
        refine H.mono ?_; clear H; rintro e w11 ⟨rc, rfl, oc, b⟩
        have B11 := below_then B10 b
        replace r_code := r_code.below b
        replace r_a := r_a.below b
        replace r_b := r_b.below b
        clear B10 b
        have r_c := oc.rd
        clear oc
        by_cases hT : TriP n7 xa ∧ (0 ≤ k7 ∧ k7 ≤ n7 - 1)
        · obtain ⟨hT1, hT2⟩ := hT
          have HBK0 := (turn_tri hT1 hT2).2
          have hE : tnR n7 xa k7 = (putsG [] ltL (xa.map (trow n7 k7)), true) := by unfold tnR; rw [if_pos ⟨hT1, hT2⟩]
          have hnn := hT1.1
          rw [hE] at r_b r_c ⊢
          clear hE
          generalize putsG [] ltL (xa.map (trow n7 k7)) = X7 at *
          obtain ⟨t9, ht9⟩ : ∃ t9, t9 = (n7 - k7) % n7 := ⟨_, rfl⟩
          have hb0 := Int.emod_nonneg (n7 - k7) (b := n7) (by omega)
          have hb1 := Int.emod_lt_of_pos (n7 - k7) (b := n7) (by omega)
          rw [← ht9] at HBK0 hb0 hb1
          have HB := Lib.hid HBK0
          have ew : IntKind.i64.wrap (n7 - k7) = n7 - k7 := IntWalk.i64_in _ (by omega)
          have et : (n7 - k7).tmod n7 = t9 := by rw [ht9]; exact Int.tmod_eq_emod_of_nonneg (by omega)
          have hnz : (n7 == 0) = false := beq_eq_false_iff_ne.2 (by omega)
          have ht64 : I64 t9 := by unfold I64; omega
          clear ht9 HBK0 hT1 hT2
          go_wp2_with fail
          have H := to_below (sameLists_any _ _ _ _ _ r_b r_c rfl)
          refine H.mono ?_; clear H; rintro e w12 ⟨rfl, b⟩
          have B12 := below_then B11 b
          replace r_code := r_code.below b
          replace r_a := r_a.below b
          replace r_b := r_b.below b
          replace r_c := r_c.below b
          clear B11 b
          go_wp2_with fail
          clear r_b
          have H := implTurnPolygon_any n7 _ _ t9 _ r_c hn7 ht64
          rw [HB.out] at H
          refine H.mono ?_; clear H; rintro e w13 ⟨rg, rfl, og, b⟩
          have B13 := below_then B12 b
          replace r_code := r_code.below b
          replace r_a := r_a.below b
          replace r_c := r_c.below b
          clear B12 b
          have r_g := og.rd
          clear og
          go_wp2_with fail
          clear r_c
          have H := to_below (sameLists_any _ _ _ _ _ r_g r_a rfl)
          refine H.mono ?_; clear H; rintro e w14 ⟨rfl, b⟩
          have B14 := below_then B13 b
          replace r_code := r_code.below b
          replace r_a := r_a.below b
          replace r_g := r_g.below b
          clear B13 b
          go_wp2_with fail
          clear r_g
          clear r_a
          have H := DrawIsTriangulation_any v bs w14 r_code
          refine H.mono ?_; clear H; rintro e w15 ⟨m7, rf, xf, rfl, hm7, r_f, lf, b⟩
          have B15 := below_then B14 b
          replace r_code := r_code.below b
          clear B14 b
          obtain ⟨Af, cf, rfl⟩ := r_f.shape
          have HBY := Lib.hid (bt_yes m7 xf)
          have hlf : (xf.length : Int) ≤ 20 := by omega
          go_wp2_with fail
          have H := implBinaryOfTriangles_any m7 _ _ _ r_f hm7
          refine H.mono ?_; clear H; rintro e w16 ⟨rfl, b⟩
          have B16 := below_then B15 b
          replace r_code := r_code.below b
          replace r_f := r_f.below b
          clear B15 b
          go_wp2_with fail
          have H := specBinaryOfTriangles_any m7 _ _ _ r_f hm7
          refine H.mono ?_; clear H; rintro e w17 ⟨rfl, b⟩
          have B17 := below_then B16 b
          replace r_code := r_code.below b
          replace r_f := r_f.below b
          clear B16 b
          go_wp2_with fail
          have H := implTrianglesOf_any m7 _ _ _ r_f hm7
          refine H.mono ?_; clear H; rintro e w18 ⟨rl, rfl, ol, b⟩
          have B18 := below_then B17 b
          replace r_code := r_code.below b
          replace r_f := r_f.below b
          clear B17 b
          have r_l := ol.rd
          clear ol
          go_wp2_with fail
          have H := specTrianglesOf_any m7 _ _ _ r_f hm7
          refine H.mono ?_; clear H; rintro e w19 ⟨ro, rfl, oo, b⟩
          have B19 := below_then B18 b
          replace r_code := r_code.below b
          replace r_f := r_f.below b
          replace r_l := r_l.below b
          clear B18 b
          have r_o := oo.rd
          clear oo
          go_wp2_with fail
          have H := DrawEarsOf_any v bs w19 r_code
          refine H.mono ?_; clear H; rintro e w20 ⟨g7, rh, xh, rfl, hg7, r_h, lh, b⟩
          have B20 := below_then B19 b
          replace r_code := r_code.below b
          replace r_f := r_f.below b
          replace r_l := r_l.below b
          replace r_o := r_o.below b
          clear B19 b
          clear r_code
          obtain ⟨Ah, ch, rfl⟩ := r_h.shape
          go_wp2_with fail
          have H := to_below (implIsTriangulation_any m7 _ _ _ r_f hm7)
          rw [← HBY.out] at H
          refine H.mono ?_; clear H; rintro e w21 ⟨rfl, b⟩
          have B21 := below_then B20 b
          replace r_f := r_f.below b
          replace r_l := r_l.below b
          replace r_o := r_o.below b
          replace r_h := r_h.below b
          clear B20 b
          go_wp2_with fail
          have H := to_below (sameLists_any _ _ _ _ _ r_l r_o rfl)
          refine H.mono ?_; clear H; rintro e w22 ⟨rfl, b⟩
          have B22 := below_then B21 b
          replace r_f := r_f.below b
          replace r_l := r_l.below b
          replace r_o := r_o.below b
          replace r_h := r_h.below b
          clear B21 b
          go_wp2_with fail
          clear r_l
          clear r_o
          have H := implEarsOf_any g7 _ _ _ r_h hg7
          refine H.mono ?_; clear H; rintro e w23 ⟨rx, rfl, ox, b⟩
          have B23 := below_then B22 b
          replace r_f := r_f.below b
          replace r_h := r_h.below b
          clear B22 b
          have r_x := ox.rd
          clear ox
          go_wp2_with fail
          have H := specEarsOf_any g7 _ _ _ r_h hg7
          refine H.mono ?_; clear H; rintro e w24 ⟨ry, rfl, oy, b⟩
          have B24 := below_then B23 b
          replace r_f := r_f.below b
          replace r_h := r_h.below b
          replace r_x := r_x.below b
          clear B23 b
          have r_y := oy.rd
          clear oy
          go_wp2_with fail
          clear r_h
          have H := to_below (sameInts_any _ _ _ _ _ r_x r_y)
          rw [decide_eq_true (rfl : eaR g7 xh = eaR g7 xh)] at H
          refine H.mono ?_; clear H; rintro e w25 ⟨rfl, b⟩
          have B25 := below_then B24 b
          replace r_f := r_f.below b
          replace r_x := r_x.below b
          replace r_y := r_y.below b
          clear B24 b
          go_wp2_with fail
          clear r_x
          clear r_y
          have H := implFormatDiagonals_any _ _ _ r_f lf
          refine H.mono ?_; clear H; rintro e w26 ⟨rfl, b⟩
          have B26 := below_then B25 b
          replace r_f := r_f.below b
          clear B25 b
          go_wp2_with fail
          have H := specFormatDiagonals_any _ _ _ r_f lf
          refine H.mono ?_; clear H; rintro e w27 ⟨rfl, b⟩
          have B27 := below_then B26 b
          replace r_f := r_f.below b
          clear B26 b
          go_wp2_with fail
          go_ret
          exact ⟨rfl, B27⟩
        · have hE : tnR n7 xa k7 = ([], false) := by unfold tnR; rw [if_neg hT]
          rw [hE] at r_b r_c ⊢
          clear hE hT
          go_wp2_with fail
          have H := to_below (sameLists_any _ _ _ _ _ r_b r_c rfl)
          refine H.mono ?_; clear H; rintro e w12 ⟨rfl, b⟩
          have B12 := below_then B11 b
          replace r_code := r_code.below b
          replace r_a := r_a.below b
          replace r_b := r_b.below b
          replace r_c := r_c.below b
          clear B11 b
          go_wp2_with fail
          clear r_a
          clear r_b
          clear r_c
          have H := DrawIsTriangulation_any v bs w12 r_code
          refine H.mono ?_; clear H; rintro e w13 ⟨m7, rf, xf, rfl, hm7, r_f, lf, b⟩
          have B13 := below_then B12 b
          replace r_code := r_code.below b
          clear B12 b
          obtain ⟨Af, cf, rfl⟩ := r_f.shape
          have HBY := Lib.hid (bt_yes m7 xf)
          have hlf : (xf.length : Int) ≤ 20 := by omega
          go_wp2_with fail
          have H := implBinaryOfTriangles_any m7 _ _ _ r_f hm7
          refine H.mono ?_; clear H; rintro e w14 ⟨rfl, b⟩
          have B14 := below_then B13 b
          replace r_code := r_code.below b
          replace r_f := r_f.below b
          clear B13 b
          go_wp2_with fail
          have H := specBinaryOfTriangles_any m7 _ _ _ r_f hm7
          refine H.mono ?_; clear H; rintro e w15 ⟨rfl, b⟩
          have B15 := below_then B14 b
          replace r_code := r_code.below b
          replace r_f := r_f.below b
          clear B14 b
          go_wp2_with fail
          have H := implTrianglesOf_any m7 _ _ _ r_f hm7
          refine H.mono ?_; clear H; rintro e w16 ⟨rl, rfl, ol, b⟩
          have B16 := below_then B15 b
          replace r_code := r_code.below b
          replace r_f := r_f.below b
          clear B15 b
          have r_l := ol.rd
          clear ol
          go_wp2_with fail
          have H := specTrianglesOf_any m7 _ _ _ r_f hm7
          refine H.mono ?_; clear H; rintro e w17 ⟨ro, rfl, oo, b⟩
          have B17 := below_then B16 b
          replace r_code := r_code.below b
          replace r_f := r_f.below b
          replace r_l := r_l.below b
          clear B16 b
          have r_o := oo.rd
          clear oo
          go_wp2_with fail
          have H := DrawEarsOf_any v bs w17 r_code
          refine H.mono ?_; clear H; rintro e w18 ⟨g7, rh, xh, rfl, hg7, r_h, lh, b⟩
          have B18 := below_then B17 b
          replace r_code := r_code.below b
          replace r_f := r_f.below b
          replace r_l := r_l.below b
          replace r_o := r_o.below b
          clear B17 b
          clear r_code
          obtain ⟨Ah, ch, rfl⟩ := r_h.shape
          go_wp2_with fail
          have H := to_below (implIsTriangulation_any m7 _ _ _ r_f hm7)
          rw [← HBY.out] at H
          refine H.mono ?_; clear H; rintro e w19 ⟨rfl, b⟩
          have B19 := below_then B18 b
          replace r_f := r_f.below b
          replace r_l := r_l.below b
          replace r_o := r_o.below b
          replace r_h := r_h.below b
          clear B18 b
          go_wp2_with fail
          have H := to_below (sameLists_any _ _ _ _ _ r_l r_o rfl)
          refine H.mono ?_; clear H; rintro e w20 ⟨rfl, b⟩
          have B20 := below_then B19 b
          replace r_f := r_f.below b
          replace r_l := r_l.below b
          replace r_o := r_o.below b
          replace r_h := r_h.below b
          clear B19 b
          go_wp2_with fail
          clear r_l
          clear r_o
          have H := implEarsOf_any g7 _ _ _ r_h hg7
          refine H.mono ?_; clear H; rintro e w21 ⟨rx, rfl, ox, b⟩
          have B21 := below_then B20 b
          replace r_f := r_f.below b
          replace r_h := r_h.below b
          clear B20 b
          have r_x := ox.rd
          clear ox
          go_wp2_with fail
          have H := specEarsOf_any g7 _ _ _ r_h hg7
          refine H.mono ?_; clear H; rintro e w22 ⟨ry, rfl, oy, b⟩
          have B22 := below_then B21 b
          replace r_f := r_f.below b
          replace r_h := r_h.below b
          replace r_x := r_x.below b
          clear B21 b
          have r_y := oy.rd
          clear oy
          go_wp2_with fail
          clear r_h
          have H := to_below (sameInts_any _ _ _ _ _ r_x r_y)
          rw [decide_eq_true (rfl : eaR g7 xh = eaR g7 xh)] at H
          refine H.mono ?_; clear H; rintro e w23 ⟨rfl, b⟩
          have B23 := below_then B22 b
          replace r_f := r_f.below b
          replace r_x := r_x.below b
          replace r_y := r_y.below b
          clear B22 b
          go_wp2_with fail
          clear r_x
          clear r_y
          have H := implFormatDiagonals_any _ _ _ r_f lf
          refine H.mono ?_; clear H; rintro e w24 ⟨rfl, b⟩
          have B24 := below_then B23 b
          replace r_f := r_f.below b
          clear B23 b
          go_wp2_with fail
          have H := specFormatDiagonals_any _ _ _ r_f lf
          refine H.mono ?_; clear H; rintro e w25 ⟨rfl, b⟩
          have B25 := below_then B24 b
          replace r_f := r_f.below b
          clear B24 b
          go_wp2_with fail
          go_ret
          exact ⟨rfl, B25⟩

set_option maxRecDepth 100000 in
theorem lifted (os : Os) (started : os.Started) (H : Type) (enc : TypeId × Value → H) :
    ReturnsInHanded {} Try.checked os 11 .any (Rows.fnTrianglesSpec.pre6 enc Try.prog Try.f11 Rows.fnTrianglesRow.domain false) (Rows.fnTrianglesSpec.post enc Try.prog Try.f11 false true false false) := by
  refine returnsInHanded_of_change (C := Try.checked) own started (by kernel_rfl) Try.func11
    (ChangeSpec.witness6 (enc := enc) (C := Try.checked) false ⟨#[], #[.slice none 0 0], []⟩ 8 (by kernel_rfl) (by kernel_rfl) (by kernel_rfl) (by kernel_rfl)) ?_
  intro W base args ds gs before hval0 hW hcnd _
  have hval : ∀ (j : Nat) t v, Try.f11.params[j]? = some t → args[j]? = some v → Value.okWide Try.prog W .any base t v := hval0
  have hW' := hW
  obtain ⟨p, q, hA0, hV, rfl, hfz, hnd⟩ := hW
  have hA : DataW.TrodAll enc Try.prog W 0 (fun _ => true) true Try.f11.params.toList args.toList ds p := hA0
  rw [Try.params11] at hA hval
  obtain ⟨v0, vs0, d0, ds0, p0, q0, hargs, rfl, rfl, h0, r0⟩ := trodAll_cons hA
  obtain ⟨rfl, rfl, rfl⟩ := trodAll_nil r0
  obtain rfl : args = #[v0] := by cases args; simp_all
  obtain ⟨rfl, rfl⟩ := trodVars_none hV
  obtain ⟨a0, len0, cap0, rfl⟩ := okWide_slice Try.underlying31 (hval 0 31 v0 rfl rfl)
  have k0 := h0
  have lt0 : ∀ x ∈ p0, x.block < W.heap.size := by obtain ⟨m, hm⟩ := k0; exact DataW.trod_lt m _ _ _ hm
  obtain ⟨z0, w0⟩ : ∃ zs, ArgB W (.slice a0 len0 cap0) zs := by
    obtain ⟨fuel, hf⟩ := h0
    rcases open_ints Try.underlying31 Try.underlying5 (by kernel_rfl) hf with ⟨hcs, _⟩ | ⟨x, l, c, zs, hcs, _, hl, hm, hz, _, hcell, hwz⟩
    · simp [Value.cells] at hcs
      obtain ⟨rfl, rfl, rfl⟩ := hcs
      exact ⟨[], ArgB.nil_ _⟩
    · simp [Value.cells] at hcs
      obtain ⟨rfl, rfl, rfl⟩ := hcs
      exact ⟨_, ArgB.of_row hl hm (by simpa using hz) hcell hwz⟩
  clear hA0 hval0
  refine (walk W (.slice a0 len0 cap0) z0 w0).mono fun e W' ⟨he, bel⟩ => ?_
  subst he
  exact ⟨_, rfl, _, _, _, [], _, [], hW', trodAll_mk1 (shut_bool Try.underlying4 _), (trodAll_cons_mk (Below.trod laidOut (by kernel_rfl) (of_decide_eq_true (by kernel_rfl)) k0 bel lt0) trodAll_mk0), rfl, bel.frame _, fun h => by cases h⟩

theorem over : Rows.fnTrianglesRow.holds Try.pinned (OpenSpec.ofChange Rows.fnTrianglesSpec) :=
  OpenClaim.holds_of_wide 11 Try.f11 rfl rfl rfl rfl rfl rfl rfl ⟨rfl, rfl, rfl, rfl, rfl⟩ rfl rfl rfl rfl rfl (by kernel_rfl) Try.func11 (by kernel_rfl)
    (of_decide_eq_true (by kernel_rfl)) (by unfold Func.isWrapper; first | (rw [if_pos (by decide +kernel)]; kernel_rfl) | (rw [if_neg (by decide +kernel)]; exact ⟨rfl, rfl⟩))
    (fun os started H enc _ => lifted os started H enc)

/-- the statement -/
theorem proved : Rows.FnTrianglesSaid := over
#print axioms proved
end Go.Proofs.Ytnkkgfeegaiakaa.triangles
