/- The law FnBrackets returns true at every code: partners are partners of each other, and shifts lead back after as many as there are parentheses. No condition. -/
import Derived.Test.YtnkkgfeegaiakaaGround
import Derived.Test.YtnkkgfeegaiakaaFnWords
import Derived.Test.YtnkkgfeegaiakaaDrawBr
import Derived.Test.YtnkkgfeegaiakaaDrawTxt
import Derived.Test.YtnkkgfeegaiakaaBrShift
import Derived.Test.YtnkkgfeegaiakaaMatchTurn
import Derived.Test.YtnkkgfeegaiakaaMatchPath
import Derived.Test.YtnkkgfeegaiakaaMatchOf
import Derived.Test.YtnkkgfeegaiakaaPathStat2
namespace Go.Proofs.Ytnkkgfeegaiakaa.brackets
open Go.ChangeShapes Go.WideShapes Go.ChangeAt Go.RowKit
open Go.ChangeMaps (open_string shut_string)
theorem txt_short {s : ByteArray} (h : TxtP s) : s.size ≤ 1000 := by
  rcases h with h | h
  · omega
  · have := six_le s h; omega
theorem br_law {s : ByteArray} (h : BrT s) : ∃ (R : List UInt8 × Bool) (dep ar : Int),
    Hid (∀ w, Calls Try.prog 53 #[.string s] w (RetSB w R)) ∧ Hid (∀ w, Calls Try.prog 49 #[.string s] w (RetSB w R)) ∧
    Hid (∀ w, Calls Try.prog 57 #[.string s] w fun e w' => e = .returned (.int .i64 dep) ∧ Below w.heap.size w w') ∧ Hid (∀ w, Calls Try.prog 58 #[.string s] w fun e w' => e = .returned (.int .i64 dep) ∧ Below w.heap.size w w') ∧
    Hid (∀ w, Calls Try.prog 54 #[.string s] w fun e w' => e = .returned (.int .i64 ar) ∧ Below w.heap.size w w') ∧ Hid (∀ w, Calls Try.prog 59 #[.string s] w fun e w' => e = .returned (.int .i64 ar) ∧ Below w.heap.size w w') := by
  rcases h with ⟨l, hb, hd, _⟩ | ⟨hn, h3⟩
  · exact ⟨(l, true), depthV l, areaV l, fun w => implPathOfBrackets_any s l w hb hd, fun w => specPathOfBrackets_any s l w hb hd, fun w => implDepthOf_any s l w hb hd, fun w => specDepthOf_any s l w hb hd, fun w => implNestedPairs_any s l w hb hd, fun w => specNestedPairs_any s l w hb hd⟩
  · have h16 : s.size ≤ 16 := by omega
    exact ⟨([], false), -1, -1, fun w => implPathOfBrackets_no s w h16 hn, fun w => specPathOfBrackets_no s w h16 hn, fun w => implDepthOf_no s w h16 hn, fun w => specDepthOf_no s w h16 hn, fun w => implNestedPairs_no s w h16 hn, fun w => specNestedPairs_no s w h16 hn⟩
theorem ptn_law {s : ByteArray} {i : Int} (h : BrT s) (hi : -1 ≤ i ∧ i ≤ (s.size : Int)) :
    (Hid (∀ w, Calls Try.prog 44 #[.string s, .int .i64 i] w fun e w' => e = .returned (.int .i64 (-1)) ∧ Below w.heap.size w w') ∧ Hid (∀ w, Calls Try.prog 45 #[.string s, .int .i64 i] w fun e w' => e = .returned (.int .i64 (-1)) ∧ Below w.heap.size w w')) ∨
    ∃ m j : Nat, i = (m : Int) ∧ j ≠ m ∧ Hid (∀ w, Calls Try.prog 44 #[.string s, .int .i64 (m : Int)] w fun e w' => e = .returned (.int .i64 (j : Int)) ∧ Below w.heap.size w w') ∧ Hid (∀ w, Calls Try.prog 45 #[.string s, .int .i64 (m : Int)] w fun e w' => e = .returned (.int .i64 (j : Int)) ∧ Below w.heap.size w w') ∧ Hid (∀ w, Calls Try.prog 44 #[.string s, .int .i64 (j : Int)] w fun e w' => e = .returned (.int .i64 (m : Int)) ∧ Below w.heap.size w w') := by
  rcases h with ⟨l, hb, hd, _⟩ | ⟨hn, h3⟩
  · have hbl := brk_at hb
    by_cases hr : 0 ≤ i ∧ i ≤ (s.size : Int) - 1
    · right
      obtain ⟨m, rfl⟩ := Int.eq_ofNat_of_zero_le hr.1
      obtain ⟨j, hj, _⟩ := prt_at hd (show m < l.length by omega)
      obtain ⟨q1, q2, q3, q4⟩ := prt_back hd (by omega) hj
      exact ⟨m, j, rfl, q2, fun w => implPartnerOf_in s l m j w hb hd (by omega) hj, fun w => specPartnerOf_in s l m j w hb hd (by omega) q4, fun w => implPartnerOf_in s l j m w hb hd (by omega) q3⟩
    · left
      exact ⟨fun w => implPartnerOf_out s l i w hb hd hr, fun w => specPartnerOf_out s l i w hb hd hr⟩
  · have h16 : s.size ≤ 16 := by omega
    left
    exact ⟨fun w => implPartnerOf_no s i w h16 hn, fun w => specPartnerOf_no s i w h16 hn⟩
set_option maxRecDepth 8000 in
set_option maxHeartbeats 40000000 in
theorem walk (w : World) (v : Value) (bs : List UInt8) (h : ArgB w v bs) :
    Calls Try.prog 6 #[v] w fun e w' => e = .returned (.bool true) ∧ Below w.heap.size w w' := by
  have HB := big_any v bs w h
  by_cases hbig : 1048576 < bs.length
  · rw [decide_eq_true hbig] at HB
    go_enter Try.func6, Try.ntmps6
    go_wp2_with fail
    refine HB.mono ?_; rintro e w1 ⟨rfl, rfl⟩
    go_wp2_with fail
    go_ret
    exact ⟨rfl, Below.refl _ _⟩
  · rw [decide_eq_false hbig] at HB
    have r_code : RdR bf w v bs := by
      obtain ⟨A, c, rfl, _, hr⟩ := h
      exact hr (by omega)
    have B0 := Below.refl w.heap.size w
    clear hbig h
    go_enter Try.func6, Try.ntmps6
    go_wp2_with fail
    refine HB.mono ?_; clear HB; rintro e w1 ⟨rfl, rfl⟩
    go_wp2_with fail
    have H := DrawPartnerOf_any v bs w r_code
    refine H.mono ?_; clear H; rintro e w1 ⟨sb, i9, rfl, pb, hi9, b⟩
    have B1 := below_then B0 b
    replace r_code := r_code.below b
    clear B0 b
    rcases ptn_law pb hi9 with ⟨H1, H2⟩ | ⟨m9, j9, rfl, hne, H1, H2, H3⟩
    · skip
      go_wp2_with fail
      have H := H1.out w1
      refine H.mono ?_; clear H; rintro e w2 ⟨rfl, b⟩
      have B2 := below_then B1 b
      replace r_code := r_code.below b
      clear B1 b
      go_wp2_with fail
      have H := H2.out w2
      refine H.mono ?_; clear H; rintro e w3 ⟨rfl, b⟩
      have B3 := below_then B2 b
      replace r_code := r_code.below b
      clear B2 b
      go_wp2_with fail
      have H := DrawShiftBrackets_any v bs w3 r_code
      refine H.mono ?_; clear H; rintro e w4 ⟨sx, rfl, px, b⟩
      have B4 := below_then B3 b
      replace r_code := r_code.below b
      clear B3 b
      rcases px with ⟨l, hb, hd, hl⟩ | ⟨hn, h3⟩
      · by_cases h0 : l = []
        · subst h0
          have hx0 : sx.size = 0 := brk_at hb
          have HB := Lib.hid (show L sx = [] from hb)
          clear hb hd hl
          go_wp2_with fail
          have H := implShift_nil sx w4 HB.out
          refine H.mono ?_; clear H; rintro e w5 ⟨rfl, b⟩
          have B5 := below_then B4 b
          replace r_code := r_code.below b
          clear B4 b
          go_wp2_with fail
          have H := specShift_nil sx w5 HB.out
          refine H.mono ?_; clear H; rintro e w6 ⟨rfl, b⟩
          have B6 := below_then B5 b
          replace r_code := r_code.below b
          clear B5 b
          go_wp2_with fail
          refine wp_loop_rounds 1 ?_
          rw [rounds_succ]
          go_wp2_with fail
          have H := DrawBracketsOf_any v bs w6 r_code
          refine H.mono ?_; clear H; rintro e w7 ⟨sw, rfl, pw, b⟩
          have B7 := below_then B6 b
          replace r_code := r_code.below b
          clear B6 b
          by_cases hD : DyckP (L sw)
          · have HDW := Lib.hid hD
            clear hD
            go_wp2_with fail
            have H := implBracketsOf_any sw w7 HDW.out
            refine H.mono ?_; clear H; rintro e w8 ⟨rfl, b⟩
            have B8 := below_then B7 b
            replace r_code := r_code.below b
            clear B7 b
            go_wp2_with fail
            have H := specBracketsOf_any sw w8 HDW.out
            refine H.mono ?_; clear H; rintro e w9 ⟨rfl, b⟩
            have B9 := below_then B8 b
            replace r_code := r_code.below b
            clear B8 b
            go_wp2_with fail
            have H := retSB_to (implPathOfBrackets_any (S (brk (L sw))) (L sw) w9 (L_S _) HDW.out) rfl (S_L sw)
            refine H.mono ?_; clear H; rintro e w10 ⟨rfl, b⟩
            have B10 := below_then B9 b
            replace r_code := r_code.below b
            clear B9 b
            go_wp2_with fail
            have H := implNestedPairs_any (S (brk (L sw))) (L sw) w10 (L_S _) HDW.out
            refine H.mono ?_; clear H; rintro e w11 ⟨rfl, b⟩
            have B11 := below_then B10 b
            replace r_code := r_code.below b
            clear B10 b
            go_wp2_with fail
            have H := implAreaOf_any sw w11
            refine H.mono ?_; clear H; rintro e w12 ⟨rfl, b⟩
            have B12 := below_then B11 b
            replace r_code := r_code.below b
            clear B11 b
            go_wp2_with fail
            have H := DrawPathOfBrackets_any v bs w12 r_code
            refine H.mono ?_; clear H; rintro e w13 ⟨sd, rfl, pd, b⟩
            have B13 := below_then B12 b
            replace r_code := r_code.below b
            clear B12 b
            clear r_code
            obtain ⟨R, dep, ar, HD1, HD2, HD3, HD4, HD5, HD6⟩ := br_law pd
            obtain ⟨lR, bR⟩ := R
            go_wp2_with fail
            have H := HD1.out w13
            refine H.mono ?_; clear H; rintro e w14 ⟨rfl, b⟩
            have B14 := below_then B13 b
            clear B13 b
            go_wp2_with fail
            have H := HD2.out w14
            refine H.mono ?_; clear H; rintro e w15 ⟨rfl, b⟩
            have B15 := below_then B14 b
            clear B14 b
            go_wp2_with fail
            have H := HD3.out w15
            refine H.mono ?_; clear H; rintro e w16 ⟨rfl, b⟩
            have B16 := below_then B15 b
            clear B15 b
            go_wp2_with fail
            have H := HD4.out w16
            refine H.mono ?_; clear H; rintro e w17 ⟨rfl, b⟩
            have B17 := below_then B16 b
            clear B16 b
            go_wp2_with fail
            have H := HD5.out w17
            refine H.mono ?_; clear H; rintro e w18 ⟨rfl, b⟩
            have B18 := below_then B17 b
            clear B17 b
            go_wp2_with fail
            have H := HD6.out w18
            refine H.mono ?_; clear H; rintro e w19 ⟨rfl, b⟩
            have B19 := below_then B18 b
            clear B18 b
            go_wp2_with fail
            go_ret
            exact ⟨rfl, B19⟩
          · have HDW := Lib.hid hD
            have hw1 : sw.size ≤ 1000 := txt_short pw
            clear hD
            go_wp2_with fail
            have H := implBracketsOf_no sw w7 HDW.out
            refine H.mono ?_; clear H; rintro e w8 ⟨rfl, b⟩
            have B8 := below_then B7 b
            replace r_code := r_code.below b
            clear B7 b
            go_wp2_with fail
            have H := specBracketsOf_no sw w8 hw1 HDW.out
            refine H.mono ?_; clear H; rintro e w9 ⟨rfl, b⟩
            have B9 := below_then B8 b
            replace r_code := r_code.below b
            clear B8 b
            go_wp2_with fail
            have H := DrawPathOfBrackets_any v bs w9 r_code
            refine H.mono ?_; clear H; rintro e w10 ⟨sd, rfl, pd, b⟩
            have B10 := below_then B9 b
            replace r_code := r_code.below b
            clear B9 b
            clear r_code
            obtain ⟨R, dep, ar, HD1, HD2, HD3, HD4, HD5, HD6⟩ := br_law pd
            obtain ⟨lR, bR⟩ := R
            go_wp2_with fail
            have H := HD1.out w10
            refine H.mono ?_; clear H; rintro e w11 ⟨rfl, b⟩
            have B11 := below_then B10 b
            clear B10 b
            go_wp2_with fail
            have H := HD2.out w11
            refine H.mono ?_; clear H; rintro e w12 ⟨rfl, b⟩
            have B12 := below_then B11 b
            clear B11 b
            go_wp2_with fail
            have H := HD3.out w12
            refine H.mono ?_; clear H; rintro e w13 ⟨rfl, b⟩
            have B13 := below_then B12 b
            clear B12 b
            go_wp2_with fail
            have H := HD4.out w13
            refine H.mono ?_; clear H; rintro e w14 ⟨rfl, b⟩
            have B14 := below_then B13 b
            clear B13 b
            go_wp2_with fail
            have H := HD5.out w14
            refine H.mono ?_; clear H; rintro e w15 ⟨rfl, b⟩
            have B15 := below_then B14 b
            clear B14 b
            go_wp2_with fail
            have H := HD6.out w15
            refine H.mono ?_; clear H; rintro e w16 ⟨rfl, b⟩
            have B16 := below_then B15 b
            clear B15 b
            go_wp2_with fail
            go_ret
            exact ⟨rfl, B16⟩
        · have HLB := Lib.hid hb
          have HLD := Lib.hid hd
          have HL0 := Lib.hid h0
          have hxl : sx.size = l.length := brk_at hb
          have HM := Lib.hid (sh_match hd hl h0)
          have HBK := Lib.hid (show S (brk (itS l.length l)) = sx by rw [(sh_facts hd hl).back, ← hb, S_L])
          have HIT := Lib.hid (fun n => it_dyck hd hl n)
          have hp : 0 < l.length := List.length_pos_iff.2 h0
          have HSD := Lib.hid (sh_facts hd hl).dyck
          clear hb hd h0
          go_wp2_with fail
          have H := implShift_yes sx l w4 HLB.out HLD.out hl HL0.out
          refine H.mono ?_; clear H; rintro e w5 ⟨rfl, b⟩
          have B5 := below_then B4 b
          replace r_code := r_code.below b
          clear B4 b
          go_wp2_with fail
          have H := specShift_yes sx l w5 HLB.out HLD.out hl HL0.out
          refine H.mono ?_; clear H; rintro e w6 ⟨rfl, b⟩
          have B6 := below_then B5 b
          replace r_code := r_code.below b
          clear B5 b
          have hxi : (sx.size : Int) = (l.length : Int) := by omega
          go_wp2_with fail
          go_loopw [7, 8, 11] (fun y is k wr => ∃ m : Nat, k = .int .i64 ((m : Int) + 1) ∧ y = .string (S (brk (itS (m + 1) l))) ∧ is = .bool true ∧ m + 1 ≤ l.length ∧ Below w6.heap.size w6 wr) (fun _ _ k _ => l.length - (intOf k).toNat)
          case atStart => exact ⟨0, rfl, rfl, rfl, by omega, Below.refl _ _⟩
          case round =>
            obtain ⟨m, rfl, rfl, rfl, hm, hB⟩ := hrel
            by_cases hlt : m + 1 < l.length
            · have hlti : (m : Int) + 1 < (l.length : Int) := by omega
              obtain ⟨hd9, hl9⟩ := HIT.out (m + 1)
              have H := implShift_yes (S (brk (itS (m + 1) l))) (itS (m + 1) l) wr (L_S _) hd9 (by omega) (fun e => by rw [e] at hl9; simp at hl9; omega)
              rw [← itS_succ] at H
              clear hd9 hl9
              go_wp2_with fail
              refine H.mono ?_; clear H; rintro e w9 ⟨rfl, b9⟩
              go_wp2_with fail
              go_roundw
              case rel => exact ⟨m + 1, by go_num, rfl, rfl, by omega, below_then hB b9⟩
              case measure => simp [intOf]; omega
            · have hlti : ¬ (m : Int) + 1 < (l.length : Int) := by omega
              obtain ⟨w7, hwr⟩ : ∃ w7, w7 = wr := ⟨_, rfl⟩
              subst hwr
              have hE : S (brk (itS (m + 1) l)) = sx := by rw [show m + 1 = l.length by omega]; exact HBK.out
              rw [hE]
              clear hE hlt hm
              have B7 := below_then B6 hB
              replace r_code := r_code.below hB
              clear B6 hB
              go_wp2_with fail
              have H := specPathOfBrackets_any sx l w7 HLB.out HLD.out
              refine H.mono ?_; clear H; rintro e w8 ⟨rfl, b⟩
              have B8 := below_then B7 b
              replace r_code := r_code.below b
              clear B7 b
              go_wp2_with fail
              have H := specMatchingOf_any (S l) w8 (by rw [S_size]; omega)
              rw [L_S] at H
              refine H.mono ?_; clear H; rintro e w9 ⟨rm, rfl, om, b⟩
              have B9 := below_then B8 b
              replace r_code := r_code.below b
              clear B8 b
              have r_m := om.rd
              clear om
              go_wp2_with fail
              have H := specTurnMatching_any _ _ 1 _ r_m (by unfold I64; omega)
              refine H.mono ?_; clear H; rintro e w10 ⟨rn, rfl, on, b⟩
              have B10 := below_then B9 b
              replace r_code := r_code.below b
              replace r_m := r_m.below b
              clear B9 b
              have r_n := on.rd
              clear on
              go_wp2_with fail
              clear r_m
              have H := retSB_to (l := shP l) (b := true) (specPathOfMatching_any _ _ _ r_n) HM.out rfl
              refine H.mono ?_; clear H; rintro e w11 ⟨rfl, b⟩
              have B11 := below_then B10 b
              replace r_code := r_code.below b
              replace r_n := r_n.below b
              clear B10 b
              go_wp2_with fail
              clear r_n
              have H := specBracketsOf_any (S (shP l)) w11 (by rw [L_S]; exact HSD.out)
              rw [L_S] at H
              refine H.mono ?_; clear H; rintro e w12 ⟨rfl, b⟩
              have B12 := below_then B11 b
              replace r_code := r_code.below b
              clear B11 b
              go_wp2_with fail
              have H := DrawBracketsOf_any v bs w12 r_code
              refine H.mono ?_; clear H; rintro e w13 ⟨sw, rfl, pw, b⟩
              have B13 := below_then B12 b
              replace r_code := r_code.below b
              clear B12 b
              by_cases hD : DyckP (L sw)
              · have HDW := Lib.hid hD
                clear hD
                go_wp2_with fail
                have H := implBracketsOf_any sw w13 HDW.out
                refine H.mono ?_; clear H; rintro e w14 ⟨rfl, b⟩
                have B14 := below_then B13 b
                replace r_code := r_code.below b
                clear B13 b
                go_wp2_with fail
                have H := specBracketsOf_any sw w14 HDW.out
                refine H.mono ?_; clear H; rintro e w15 ⟨rfl, b⟩
                have B15 := below_then B14 b
                replace r_code := r_code.below b
                clear B14 b
                go_wp2_with fail
                have H := retSB_to (implPathOfBrackets_any (S (brk (L sw))) (L sw) w15 (L_S _) HDW.out) rfl (S_L sw)
                refine H.mono ?_; clear H; rintro e w16 ⟨rfl, b⟩
                have B16 := below_then B15 b
                replace r_code := r_code.below b
                clear B15 b
                go_wp2_with fail
                have H := implNestedPairs_any (S (brk (L sw))) (L sw) w16 (L_S _) HDW.out
                refine H.mono ?_; clear H; rintro e w17 ⟨rfl, b⟩
                have B17 := below_then B16 b
                replace r_code := r_code.below b
                clear B16 b
                go_wp2_with fail
                have H := implAreaOf_any sw w17
                refine H.mono ?_; clear H; rintro e w18 ⟨rfl, b⟩
                have B18 := below_then B17 b
                replace r_code := r_code.below b
                clear B17 b
                go_wp2_with fail
                have H := DrawPathOfBrackets_any v bs w18 r_code
                refine H.mono ?_; clear H; rintro e w19 ⟨sd, rfl, pd, b⟩
                have B19 := below_then B18 b
                replace r_code := r_code.below b
                clear B18 b
                clear r_code
                obtain ⟨R, dep, ar, HD1, HD2, HD3, HD4, HD5, HD6⟩ := br_law pd
                obtain ⟨lR, bR⟩ := R
                go_wp2_with fail
                have H := HD1.out w19
                refine H.mono ?_; clear H; rintro e w20 ⟨rfl, b⟩
                have B20 := below_then B19 b
                clear B19 b
                go_wp2_with fail
                have H := HD2.out w20
                refine H.mono ?_; clear H; rintro e w21 ⟨rfl, b⟩
                have B21 := below_then B20 b
                clear B20 b
                go_wp2_with fail
                have H := HD3.out w21
                refine H.mono ?_; clear H; rintro e w22 ⟨rfl, b⟩
                have B22 := below_then B21 b
                clear B21 b
                go_wp2_with fail
                have H := HD4.out w22
                refine H.mono ?_; clear H; rintro e w23 ⟨rfl, b⟩
                have B23 := below_then B22 b
                clear B22 b
                go_wp2_with fail
                have H := HD5.out w23
                refine H.mono ?_; clear H; rintro e w24 ⟨rfl, b⟩
                have B24 := below_then B23 b
                clear B23 b
                go_wp2_with fail
                have H := HD6.out w24
                refine H.mono ?_; clear H; rintro e w25 ⟨rfl, b⟩
                have B25 := below_then B24 b
                clear B24 b
                go_wp2_with fail
                go_ret
                exact ⟨rfl, B25⟩
              · have HDW := Lib.hid hD
                have hw1 : sw.size ≤ 1000 := txt_short pw
                clear hD
                go_wp2_with fail
                have H := implBracketsOf_no sw w13 HDW.out
                refine H.mono ?_; clear H; rintro e w14 ⟨rfl, b⟩
                have B14 := below_then B13 b
                replace r_code := r_code.below b
                clear B13 b
                go_wp2_with fail
                have H := specBracketsOf_no sw w14 hw1 HDW.out
                refine H.mono ?_; clear H; rintro e w15 ⟨rfl, b⟩
                have B15 := below_then B14 b
                replace r_code := r_code.below b
                clear B14 b
                go_wp2_with fail
                have H := DrawPathOfBrackets_any v bs w15 r_code
                refine H.mono ?_; clear H; rintro e w16 ⟨sd, rfl, pd, b⟩
                have B16 := below_then B15 b
                replace r_code := r_code.below b
                clear B15 b
                clear r_code
                obtain ⟨R, dep, ar, HD1, HD2, HD3, HD4, HD5, HD6⟩ := br_law pd
                obtain ⟨lR, bR⟩ := R
                go_wp2_with fail
                have H := HD1.out w16
                refine H.mono ?_; clear H; rintro e w17 ⟨rfl, b⟩
                have B17 := below_then B16 b
                clear B16 b
                go_wp2_with fail
                have H := HD2.out w17
                refine H.mono ?_; clear H; rintro e w18 ⟨rfl, b⟩
                have B18 := below_then B17 b
                clear B17 b
                go_wp2_with fail
                have H := HD3.out w18
                refine H.mono ?_; clear H; rintro e w19 ⟨rfl, b⟩
                have B19 := below_then B18 b
                clear B18 b
                go_wp2_with fail
                have H := HD4.out w19
                refine H.mono ?_; clear H; rintro e w20 ⟨rfl, b⟩
                have B20 := below_then B19 b
                clear B19 b
                go_wp2_with fail
                have H := HD5.out w20
                refine H.mono ?_; clear H; rintro e w21 ⟨rfl, b⟩
                have B21 := below_then B20 b
                clear B20 b
                go_wp2_with fail
                have H := HD6.out w21
                refine H.mono ?_; clear H; rintro e w22 ⟨rfl, b⟩
                have B22 := below_then B21 b
                clear B21 b
                go_wp2_with fail
                go_ret
                exact ⟨rfl, B22⟩
      · have HN := Lib.hid hn
        have hx3 : sx.size ≤ 16 := by omega
        clear hn
        go_wp2_with fail
        have H := implShift_no sx w4 hx3 HN.out
        refine H.mono ?_; clear H; rintro e w5 ⟨rfl, b⟩
        have B5 := below_then B4 b
        replace r_code := r_code.below b
        clear B4 b
        go_wp2_with fail
        have H := specShift_no sx w5 hx3 HN.out
        refine H.mono ?_; clear H; rintro e w6 ⟨rfl, b⟩
        have B6 := below_then B5 b
        replace r_code := r_code.below b
        clear B5 b
        go_wp2_with fail
        refine wp_loop_rounds 1 ?_
        rw [rounds_succ]
        go_wp2_with fail
        all_goals (
          have H := DrawBracketsOf_any v bs w6 r_code
          refine H.mono ?_; clear H; rintro e w7 ⟨sw, rfl, pw, b⟩
          have B7 := below_then B6 b
          replace r_code := r_code.below b
          clear B6 b
          by_cases hD : DyckP (L sw)
          · have HDW := Lib.hid hD
            clear hD
            go_wp2_with fail
            have H := implBracketsOf_any sw w7 HDW.out
            refine H.mono ?_; clear H; rintro e w8 ⟨rfl, b⟩
            have B8 := below_then B7 b
            replace r_code := r_code.below b
            clear B7 b
            go_wp2_with fail
            have H := specBracketsOf_any sw w8 HDW.out
            refine H.mono ?_; clear H; rintro e w9 ⟨rfl, b⟩
            have B9 := below_then B8 b
            replace r_code := r_code.below b
            clear B8 b
            go_wp2_with fail
            have H := retSB_to (implPathOfBrackets_any (S (brk (L sw))) (L sw) w9 (L_S _) HDW.out) rfl (S_L sw)
            refine H.mono ?_; clear H; rintro e w10 ⟨rfl, b⟩
            have B10 := below_then B9 b
            replace r_code := r_code.below b
            clear B9 b
            go_wp2_with fail
            have H := implNestedPairs_any (S (brk (L sw))) (L sw) w10 (L_S _) HDW.out
            refine H.mono ?_; clear H; rintro e w11 ⟨rfl, b⟩
            have B11 := below_then B10 b
            replace r_code := r_code.below b
            clear B10 b
            go_wp2_with fail
            have H := implAreaOf_any sw w11
            refine H.mono ?_; clear H; rintro e w12 ⟨rfl, b⟩
            have B12 := below_then B11 b
            replace r_code := r_code.below b
            clear B11 b
            go_wp2_with fail
            have H := DrawPathOfBrackets_any v bs w12 r_code
            refine H.mono ?_; clear H; rintro e w13 ⟨sd, rfl, pd, b⟩
            have B13 := below_then B12 b
            replace r_code := r_code.below b
            clear B12 b
            clear r_code
            obtain ⟨R, dep, ar, HD1, HD2, HD3, HD4, HD5, HD6⟩ := br_law pd
            obtain ⟨lR, bR⟩ := R
            go_wp2_with fail
            have H := HD1.out w13
            refine H.mono ?_; clear H; rintro e w14 ⟨rfl, b⟩
            have B14 := below_then B13 b
            clear B13 b
            go_wp2_with fail
            have H := HD2.out w14
            refine H.mono ?_; clear H; rintro e w15 ⟨rfl, b⟩
            have B15 := below_then B14 b
            clear B14 b
            go_wp2_with fail
            have H := HD3.out w15
            refine H.mono ?_; clear H; rintro e w16 ⟨rfl, b⟩
            have B16 := below_then B15 b
            clear B15 b
            go_wp2_with fail
            have H := HD4.out w16
            refine H.mono ?_; clear H; rintro e w17 ⟨rfl, b⟩
            have B17 := below_then B16 b
            clear B16 b
            go_wp2_with fail
            have H := HD5.out w17
            refine H.mono ?_; clear H; rintro e w18 ⟨rfl, b⟩
            have B18 := below_then B17 b
            clear B17 b
            go_wp2_with fail
            have H := HD6.out w18
            refine H.mono ?_; clear H; rintro e w19 ⟨rfl, b⟩
            have B19 := below_then B18 b
            clear B18 b
            go_wp2_with fail
            go_ret
            exact ⟨rfl, B19⟩
          · have HDW := Lib.hid hD
            have hw1 : sw.size ≤ 1000 := txt_short pw
            clear hD
            go_wp2_with fail
            have H := implBracketsOf_no sw w7 HDW.out
            refine H.mono ?_; clear H; rintro e w8 ⟨rfl, b⟩
            have B8 := below_then B7 b
            replace r_code := r_code.below b
            clear B7 b
            go_wp2_with fail
            have H := specBracketsOf_no sw w8 hw1 HDW.out
            refine H.mono ?_; clear H; rintro e w9 ⟨rfl, b⟩
            have B9 := below_then B8 b
            replace r_code := r_code.below b
            clear B8 b
            go_wp2_with fail
            have H := DrawPathOfBrackets_any v bs w9 r_code
            refine H.mono ?_; clear H; rintro e w10 ⟨sd, rfl, pd, b⟩
            have B10 := below_then B9 b
            replace r_code := r_code.below b
            clear B9 b
            clear r_code
            obtain ⟨R, dep, ar, HD1, HD2, HD3, HD4, HD5, HD6⟩ := br_law pd
            obtain ⟨lR, bR⟩ := R
            go_wp2_with fail
            have H := HD1.out w10
            refine H.mono ?_; clear H; rintro e w11 ⟨rfl, b⟩
            have B11 := below_then B10 b
            clear B10 b
            go_wp2_with fail
            have H := HD2.out w11
            refine H.mono ?_; clear H; rintro e w12 ⟨rfl, b⟩
            have B12 := below_then B11 b
            clear B11 b
            go_wp2_with fail
            have H := HD3.out w12
            refine H.mono ?_; clear H; rintro e w13 ⟨rfl, b⟩
            have B13 := below_then B12 b
            clear B12 b
            go_wp2_with fail
            have H := HD4.out w13
            refine H.mono ?_; clear H; rintro e w14 ⟨rfl, b⟩
            have B14 := below_then B13 b
            clear B13 b
            go_wp2_with fail
            have H := HD5.out w14
            refine H.mono ?_; clear H; rintro e w15 ⟨rfl, b⟩
            have B15 := below_then B14 b
            clear B14 b
            go_wp2_with fail
            have H := HD6.out w15
            refine H.mono ?_; clear H; rintro e w16 ⟨rfl, b⟩
            have B16 := below_then B15 b
            clear B15 b
            go_wp2_with fail
            go_ret
            exact ⟨rfl, B16⟩)
    · have f9 : ((j9 : Int) == (m9 : Int)) = false := beq_eq_false_iff_ne.2 (by omega)
      go_wp2_with fail
      have H := H1.out w1
      refine H.mono ?_; clear H; rintro e w2 ⟨rfl, b⟩
      have B2 := below_then B1 b
      replace r_code := r_code.below b
      clear B1 b
      go_wp2_with fail
      have H := H2.out w2
      refine H.mono ?_; clear H; rintro e w3 ⟨rfl, b⟩
      have B3 := below_then B2 b
      replace r_code := r_code.below b
      clear B2 b
      go_wp2_with fail
      have H := H3.out w3
      refine H.mono ?_; clear H; rintro e w4 ⟨rfl, b⟩
      have B4 := below_then B3 b
      replace r_code := r_code.below b
      clear B3 b
      go_wp2_with fail
      have H := DrawShiftBrackets_any v bs w4 r_code
      refine H.mono ?_; clear H; rintro e w5 ⟨sx, rfl, px, b⟩
      have B5 := below_then B4 b
      replace r_code := r_code.below b
      clear B4 b
      rcases px with ⟨l, hb, hd, hl⟩ | ⟨hn, h3⟩
      · by_cases h0 : l = []
        · subst h0
          have hx0 : sx.size = 0 := brk_at hb
          have HB := Lib.hid (show L sx = [] from hb)
          clear hb hd hl
          go_wp2_with fail
          have H := implShift_nil sx w5 HB.out
          refine H.mono ?_; clear H; rintro e w6 ⟨rfl, b⟩
          have B6 := below_then B5 b
          replace r_code := r_code.below b
          clear B5 b
          go_wp2_with fail
          have H := specShift_nil sx w6 HB.out
          refine H.mono ?_; clear H; rintro e w7 ⟨rfl, b⟩
          have B7 := below_then B6 b
          replace r_code := r_code.below b
          clear B6 b
          go_wp2_with fail
          refine wp_loop_rounds 1 ?_
          rw [rounds_succ]
          go_wp2_with fail
          have H := DrawBracketsOf_any v bs w7 r_code
          refine H.mono ?_; clear H; rintro e w8 ⟨sw, rfl, pw, b⟩
          have B8 := below_then B7 b
          replace r_code := r_code.below b
          clear B7 b
          by_cases hD : DyckP (L sw)
          · have HDW := Lib.hid hD
            clear hD
            go_wp2_with fail
            have H := implBracketsOf_any sw w8 HDW.out
            refine H.mono ?_; clear H; rintro e w9 ⟨rfl, b⟩
            have B9 := below_then B8 b
            replace r_code := r_code.below b
            clear B8 b
            go_wp2_with fail
            have H := specBracketsOf_any sw w9 HDW.out
            refine H.mono ?_; clear H; rintro e w10 ⟨rfl, b⟩
            have B10 := below_then B9 b
            replace r_code := r_code.below b
            clear B9 b
            go_wp2_with fail
            have H := retSB_to (implPathOfBrackets_any (S (brk (L sw))) (L sw) w10 (L_S _) HDW.out) rfl (S_L sw)
            refine H.mono ?_; clear H; rintro e w11 ⟨rfl, b⟩
            have B11 := below_then B10 b
            replace r_code := r_code.below b
            clear B10 b
            go_wp2_with fail
            have H := implNestedPairs_any (S (brk (L sw))) (L sw) w11 (L_S _) HDW.out
            refine H.mono ?_; clear H; rintro e w12 ⟨rfl, b⟩
            have B12 := below_then B11 b
            replace r_code := r_code.below b
            clear B11 b
            go_wp2_with fail
            have H := implAreaOf_any sw w12
            refine H.mono ?_; clear H; rintro e w13 ⟨rfl, b⟩
            have B13 := below_then B12 b
            replace r_code := r_code.below b
            clear B12 b
            go_wp2_with fail
            have H := DrawPathOfBrackets_any v bs w13 r_code
            refine H.mono ?_; clear H; rintro e w14 ⟨sd, rfl, pd, b⟩
            have B14 := below_then B13 b
            replace r_code := r_code.below b
            clear B13 b
            clear r_code
            obtain ⟨R, dep, ar, HD1, HD2, HD3, HD4, HD5, HD6⟩ := br_law pd
            obtain ⟨lR, bR⟩ := R
            go_wp2_with fail
            have H := HD1.out w14
            refine H.mono ?_; clear H; rintro e w15 ⟨rfl, b⟩
            have B15 := below_then B14 b
            clear B14 b
            go_wp2_with fail
            have H := HD2.out w15
            refine H.mono ?_; clear H; rintro e w16 ⟨rfl, b⟩
            have B16 := below_then B15 b
            clear B15 b
            go_wp2_with fail
            have H := HD3.out w16
            refine H.mono ?_; clear H; rintro e w17 ⟨rfl, b⟩
            have B17 := below_then B16 b
            clear B16 b
            go_wp2_with fail
            have H := HD4.out w17
            refine H.mono ?_; clear H; rintro e w18 ⟨rfl, b⟩
            have B18 := below_then B17 b
            clear B17 b
            go_wp2_with fail
            have H := HD5.out w18
            refine H.mono ?_; clear H; rintro e w19 ⟨rfl, b⟩
            have B19 := below_then B18 b
            clear B18 b
            go_wp2_with fail
            have H := HD6.out w19
            refine H.mono ?_; clear H; rintro e w20 ⟨rfl, b⟩
            have B20 := below_then B19 b
            clear B19 b
            go_wp2_with fail
            go_ret
            exact ⟨rfl, B20⟩
          · have HDW := Lib.hid hD
            have hw1 : sw.size ≤ 1000 := txt_short pw
            clear hD
            go_wp2_with fail
            have H := implBracketsOf_no sw w8 HDW.out
            refine H.mono ?_; clear H; rintro e w9 ⟨rfl, b⟩
            have B9 := below_then B8 b
            replace r_code := r_code.below b
            clear B8 b
            go_wp2_with fail
            have H := specBracketsOf_no sw w9 hw1 HDW.out
            refine H.mono ?_; clear H; rintro e w10 ⟨rfl, b⟩
            have B10 := below_then B9 b
            replace r_code := r_code.below b
            clear B9 b
            go_wp2_with fail
            have H := DrawPathOfBrackets_any v bs w10 r_code
            refine H.mono ?_; clear H; rintro e w11 ⟨sd, rfl, pd, b⟩
            have B11 := below_then B10 b
            replace r_code := r_code.below b
            clear B10 b
            clear r_code
            obtain ⟨R, dep, ar, HD1, HD2, HD3, HD4, HD5, HD6⟩ := br_law pd
            obtain ⟨lR, bR⟩ := R
            go_wp2_with fail
            have H := HD1.out w11
            refine H.mono ?_; clear H; rintro e w12 ⟨rfl, b⟩
            have B12 := below_then B11 b
            clear B11 b
            go_wp2_with fail
            have H := HD2.out w12
            refine H.mono ?_; clear H; rintro e w13 ⟨rfl, b⟩
            have B13 := below_then B12 b
            clear B12 b
            go_wp2_with fail
            have H := HD3.out w13
            refine H.mono ?_; clear H; rintro e w14 ⟨rfl, b⟩
            have B14 := below_then B13 b
            clear B13 b
            go_wp2_with fail
            have H := HD4.out w14
            refine H.mono ?_; clear H; rintro e w15 ⟨rfl, b⟩
            have B15 := below_then B14 b
            clear B14 b
            go_wp2_with fail
            have H := HD5.out w15
            refine H.mono ?_; clear H; rintro e w16 ⟨rfl, b⟩
            have B16 := below_then B15 b
            clear B15 b
            go_wp2_with fail
            have H := HD6.out w16
            refine H.mono ?_; clear H; rintro e w17 ⟨rfl, b⟩
            have B17 := below_then B16 b
            clear B16 b
            go_wp2_with fail
            go_ret
            exact ⟨rfl, B17⟩
        · have HLB := Lib.hid hb
          have HLD := Lib.hid hd
          have HL0 := Lib.hid h0
          have hxl : sx.size = l.length := brk_at hb
          have HM := Lib.hid (sh_match hd hl h0)
          have HBK := Lib.hid (show S (brk (itS l.length l)) = sx by rw [(sh_facts hd hl).back, ← hb, S_L])
          have HIT := Lib.hid (fun n => it_dyck hd hl n)
          have hp : 0 < l.length := List.length_pos_iff.2 h0
          have HSD := Lib.hid (sh_facts hd hl).dyck
          clear hb hd h0
          go_wp2_with fail
          have H := implShift_yes sx l w5 HLB.out HLD.out hl HL0.out
          refine H.mono ?_; clear H; rintro e w6 ⟨rfl, b⟩
          have B6 := below_then B5 b
          replace r_code := r_code.below b
          clear B5 b
          go_wp2_with fail
          have H := specShift_yes sx l w6 HLB.out HLD.out hl HL0.out
          refine H.mono ?_; clear H; rintro e w7 ⟨rfl, b⟩
          have B7 := below_then B6 b
          replace r_code := r_code.below b
          clear B6 b
          have hxi : (sx.size : Int) = (l.length : Int) := by omega
          go_wp2_with fail
          go_loopw [7, 8, 11] (fun y is k wr => ∃ m : Nat, k = .int .i64 ((m : Int) + 1) ∧ y = .string (S (brk (itS (m + 1) l))) ∧ is = .bool true ∧ m + 1 ≤ l.length ∧ Below w7.heap.size w7 wr) (fun _ _ k _ => l.length - (intOf k).toNat)
          case atStart => exact ⟨0, rfl, rfl, rfl, by omega, Below.refl _ _⟩
          case round =>
            obtain ⟨m, rfl, rfl, rfl, hm, hB⟩ := hrel
            by_cases hlt : m + 1 < l.length
            · have hlti : (m : Int) + 1 < (l.length : Int) := by omega
              obtain ⟨hd9, hl9⟩ := HIT.out (m + 1)
              have H := implShift_yes (S (brk (itS (m + 1) l))) (itS (m + 1) l) wr (L_S _) hd9 (by omega) (fun e => by rw [e] at hl9; simp at hl9; omega)
              rw [← itS_succ] at H
              clear hd9 hl9
              go_wp2_with fail
              refine H.mono ?_; clear H; rintro e w9 ⟨rfl, b9⟩
              go_wp2_with fail
              go_roundw
              case rel => exact ⟨m + 1, by go_num, rfl, rfl, by omega, below_then hB b9⟩
              case measure => simp [intOf]; omega
            · have hlti : ¬ (m : Int) + 1 < (l.length : Int) := by omega
              obtain ⟨w8, hwr⟩ : ∃ w8, w8 = wr := ⟨_, rfl⟩
              subst hwr
              have hE : S (brk (itS (m + 1) l)) = sx := by rw [show m + 1 = l.length by omega]; exact HBK.out
              rw [hE]
              clear hE hlt hm
              have B8 := below_then B7 hB
              replace r_code := r_code.below hB
              clear B7 hB
              go_wp2_with fail
              have H := specPathOfBrackets_any sx l w8 HLB.out HLD.out
              refine H.mono ?_; clear H; rintro e w9 ⟨rfl, b⟩
              have B9 := below_then B8 b
              replace r_code := r_code.below b
              clear B8 b
              go_wp2_with fail
              have H := specMatchingOf_any (S l) w9 (by rw [S_size]; omega)
              rw [L_S] at H
              refine H.mono ?_; clear H; rintro e w10 ⟨rm, rfl, om, b⟩
              have B10 := below_then B9 b
              replace r_code := r_code.below b
              clear B9 b
              have r_m := om.rd
              clear om
              go_wp2_with fail
              have H := specTurnMatching_any _ _ 1 _ r_m (by unfold I64; omega)
              refine H.mono ?_; clear H; rintro e w11 ⟨rn, rfl, on, b⟩
              have B11 := below_then B10 b
              replace r_code := r_code.below b
              replace r_m := r_m.below b
              clear B10 b
              have r_n := on.rd
              clear on
              go_wp2_with fail
              clear r_m
              have H := retSB_to (l := shP l) (b := true) (specPathOfMatching_any _ _ _ r_n) HM.out rfl
              refine H.mono ?_; clear H; rintro e w12 ⟨rfl, b⟩
              have B12 := below_then B11 b
              replace r_code := r_code.below b
              replace r_n := r_n.below b
              clear B11 b
              go_wp2_with fail
              clear r_n
              have H := specBracketsOf_any (S (shP l)) w12 (by rw [L_S]; exact HSD.out)
              rw [L_S] at H
              refine H.mono ?_; clear H; rintro e w13 ⟨rfl, b⟩
              have B13 := below_then B12 b
              replace r_code := r_code.below b
              clear B12 b
              go_wp2_with fail
              have H := DrawBracketsOf_any v bs w13 r_code
              refine H.mono ?_; clear H; rintro e w14 ⟨sw, rfl, pw, b⟩
              have B14 := below_then B13 b
              replace r_code := r_code.below b
              clear B13 b
              by_cases hD : DyckP (L sw)
              · have HDW := Lib.hid hD
                clear hD
                go_wp2_with fail
                have H := implBracketsOf_any sw w14 HDW.out
                refine H.mono ?_; clear H; rintro e w15 ⟨rfl, b⟩
                have B15 := below_then B14 b
                replace r_code := r_code.below b
                clear B14 b
                go_wp2_with fail
                have H := specBracketsOf_any sw w15 HDW.out
                refine H.mono ?_; clear H; rintro e w16 ⟨rfl, b⟩
                have B16 := below_then B15 b
                replace r_code := r_code.below b
                clear B15 b
                go_wp2_with fail
                have H := retSB_to (implPathOfBrackets_any (S (brk (L sw))) (L sw) w16 (L_S _) HDW.out) rfl (S_L sw)
                refine H.mono ?_; clear H; rintro e w17 ⟨rfl, b⟩
                have B17 := below_then B16 b
                replace r_code := r_code.below b
                clear B16 b
                go_wp2_with fail
                have H := implNestedPairs_any (S (brk (L sw))) (L sw) w17 (L_S _) HDW.out
                refine H.mono ?_; clear H; rintro e w18 ⟨rfl, b⟩
                have B18 := below_then B17 b
                replace r_code := r_code.below b
                clear B17 b
                go_wp2_with fail
                have H := implAreaOf_any sw w18
                refine H.mono ?_; clear H; rintro e w19 ⟨rfl, b⟩
                have B19 := below_then B18 b
                replace r_code := r_code.below b
                clear B18 b
                go_wp2_with fail
                have H := DrawPathOfBrackets_any v bs w19 r_code
                refine H.mono ?_; clear H; rintro e w20 ⟨sd, rfl, pd, b⟩
                have B20 := below_then B19 b
                replace r_code := r_code.below b
                clear B19 b
                clear r_code
                obtain ⟨R, dep, ar, HD1, HD2, HD3, HD4, HD5, HD6⟩ := br_law pd
                obtain ⟨lR, bR⟩ := R
                go_wp2_with fail
                have H := HD1.out w20
                refine H.mono ?_; clear H; rintro e w21 ⟨rfl, b⟩
                have B21 := below_then B20 b
                clear B20 b
                go_wp2_with fail
                have H := HD2.out w21
                refine H.mono ?_; clear H; rintro e w22 ⟨rfl, b⟩
                have B22 := below_then B21 b
                clear B21 b
                go_wp2_with fail
                have H := HD3.out w22
                refine H.mono ?_; clear H; rintro e w23 ⟨rfl, b⟩
                have B23 := below_then B22 b
                clear B22 b
                go_wp2_with fail
                have H := HD4.out w23
                refine H.mono ?_; clear H; rintro e w24 ⟨rfl, b⟩
                have B24 := below_then B23 b
                clear B23 b
                go_wp2_with fail
                have H := HD5.out w24
                refine H.mono ?_; clear H; rintro e w25 ⟨rfl, b⟩
                have B25 := below_then B24 b
                clear B24 b
                go_wp2_with fail
                have H := HD6.out w25
                refine H.mono ?_; clear H; rintro e w26 ⟨rfl, b⟩
                have B26 := below_then B25 b
                clear B25 b
                go_wp2_with fail
                go_ret
                exact ⟨rfl, B26⟩
              · have HDW := Lib.hid hD
                have hw1 : sw.size ≤ 1000 := txt_short pw
                clear hD
                go_wp2_with fail
                have H := implBracketsOf_no sw w14 HDW.out
                refine H.mono ?_; clear H; rintro e w15 ⟨rfl, b⟩
                have B15 := below_then B14 b
                replace r_code := r_code.below b
                clear B14 b
                go_wp2_with fail
                have H := specBracketsOf_no sw w15 hw1 HDW.out
                refine H.mono ?_; clear H; rintro e w16 ⟨rfl, b⟩
                have B16 := below_then B15 b
                replace r_code := r_code.below b
                clear B15 b
                go_wp2_with fail
                have H := DrawPathOfBrackets_any v bs w16 r_code
                refine H.mono ?_; clear H; rintro e w17 ⟨sd, rfl, pd, b⟩
                have B17 := below_then B16 b
                replace r_code := r_code.below b
                clear B16 b
                clear r_code
                obtain ⟨R, dep, ar, HD1, HD2, HD3, HD4, HD5, HD6⟩ := br_law pd
                obtain ⟨lR, bR⟩ := R
                go_wp2_with fail
                have H := HD1.out w17
                refine H.mono ?_; clear H; rintro e w18 ⟨rfl, b⟩
                have B18 := below_then B17 b
                clear B17 b
                go_wp2_with fail
                have H := HD2.out w18
                refine H.mono ?_; clear H; rintro e w19 ⟨rfl, b⟩
                have B19 := below_then B18 b
                clear B18 b
                go_wp2_with fail
                have H := HD3.out w19
                refine H.mono ?_; clear H; rintro e w20 ⟨rfl, b⟩
                have B20 := below_then B19 b
                clear B19 b
                go_wp2_with fail
                have H := HD4.out w20
                refine H.mono ?_; clear H; rintro e w21 ⟨rfl, b⟩
                have B21 := below_then B20 b
                clear B20 b
                go_wp2_with fail
                have H := HD5.out w21
                refine H.mono ?_; clear H; rintro e w22 ⟨rfl, b⟩
                have B22 := below_then B21 b
                clear B21 b
                go_wp2_with fail
                have H := HD6.out w22
                refine H.mono ?_; clear H; rintro e w23 ⟨rfl, b⟩
                have B23 := below_then B22 b
                clear B22 b
                go_wp2_with fail
                go_ret
                exact ⟨rfl, B23⟩
      · have HN := Lib.hid hn
        have hx3 : sx.size ≤ 16 := by omega
        clear hn
        go_wp2_with fail
        have H := implShift_no sx w5 hx3 HN.out
        refine H.mono ?_; clear H; rintro e w6 ⟨rfl, b⟩
        have B6 := below_then B5 b
        replace r_code := r_code.below b
        clear B5 b
        go_wp2_with fail
        have H := specShift_no sx w6 hx3 HN.out
        refine H.mono ?_; clear H; rintro e w7 ⟨rfl, b⟩
        have B7 := below_then B6 b
        replace r_code := r_code.below b
        clear B6 b
        go_wp2_with fail
        refine wp_loop_rounds 1 ?_
        rw [rounds_succ]
        go_wp2_with fail
        all_goals (
          have H := DrawBracketsOf_any v bs w7 r_code
          refine H.mono ?_; clear H; rintro e w8 ⟨sw, rfl, pw, b⟩
          have B8 := below_then B7 b
          replace r_code := r_code.below b
          clear B7 b
          by_cases hD : DyckP (L sw)
          · have HDW := Lib.hid hD
            clear hD
            go_wp2_with fail
            have H := implBracketsOf_any sw w8 HDW.out
            refine H.mono ?_; clear H; rintro e w9 ⟨rfl, b⟩
            have B9 := below_then B8 b
            replace r_code := r_code.below b
            clear B8 b
            go_wp2_with fail
            have H := specBracketsOf_any sw w9 HDW.out
            refine H.mono ?_; clear H; rintro e w10 ⟨rfl, b⟩
            have B10 := below_then B9 b
            replace r_code := r_code.below b
            clear B9 b
            go_wp2_with fail
            have H := retSB_to (implPathOfBrackets_any (S (brk (L sw))) (L sw) w10 (L_S _) HDW.out) rfl (S_L sw)
            refine H.mono ?_; clear H; rintro e w11 ⟨rfl, b⟩
            have B11 := below_then B10 b
            replace r_code := r_code.below b
            clear B10 b
            go_wp2_with fail
            have H := implNestedPairs_any (S (brk (L sw))) (L sw) w11 (L_S _) HDW.out
            refine H.mono ?_; clear H; rintro e w12 ⟨rfl, b⟩
            have B12 := below_then B11 b
            replace r_code := r_code.below b
            clear B11 b
            go_wp2_with fail
            have H := implAreaOf_any sw w12
            refine H.mono ?_; clear H; rintro e w13 ⟨rfl, b⟩
            have B13 := below_then B12 b
            replace r_code := r_code.below b
            clear B12 b
            go_wp2_with fail
            have H := DrawPathOfBrackets_any v bs w13 r_code
            refine H.mono ?_; clear H; rintro e w14 ⟨sd, rfl, pd, b⟩
            have B14 := below_then B13 b
            replace r_code := r_code.below b
            clear B13 b
            clear r_code
            obtain ⟨R, dep, ar, HD1, HD2, HD3, HD4, HD5, HD6⟩ := br_law pd
            obtain ⟨lR, bR⟩ := R
            go_wp2_with fail
            have H := HD1.out w14
            refine H.mono ?_; clear H; rintro e w15 ⟨rfl, b⟩
            have B15 := below_then B14 b
            clear B14 b
            go_wp2_with fail
            have H := HD2.out w15
            refine H.mono ?_; clear H; rintro e w16 ⟨rfl, b⟩
            have B16 := below_then B15 b
            clear B15 b
            go_wp2_with fail
            have H := HD3.out w16
            refine H.mono ?_; clear H; rintro e w17 ⟨rfl, b⟩
            have B17 := below_then B16 b
            clear B16 b
            go_wp2_with fail
            have H := HD4.out w17
            refine H.mono ?_; clear H; rintro e w18 ⟨rfl, b⟩
            have B18 := below_then B17 b
            clear B17 b
            go_wp2_with fail
            have H := HD5.out w18
            refine H.mono ?_; clear H; rintro e w19 ⟨rfl, b⟩
            have B19 := below_then B18 b
            clear B18 b
            go_wp2_with fail
            have H := HD6.out w19
            refine H.mono ?_; clear H; rintro e w20 ⟨rfl, b⟩
            have B20 := below_then B19 b
            clear B19 b
            go_wp2_with fail
            go_ret
            exact ⟨rfl, B20⟩
          · have HDW := Lib.hid hD
            have hw1 : sw.size ≤ 1000 := txt_short pw
            clear hD
            go_wp2_with fail
            have H := implBracketsOf_no sw w8 HDW.out
            refine H.mono ?_; clear H; rintro e w9 ⟨rfl, b⟩
            have B9 := below_then B8 b
            replace r_code := r_code.below b
            clear B8 b
            go_wp2_with fail
            have H := specBracketsOf_no sw w9 hw1 HDW.out
            refine H.mono ?_; clear H; rintro e w10 ⟨rfl, b⟩
            have B10 := below_then B9 b
            replace r_code := r_code.below b
            clear B9 b
            go_wp2_with fail
            have H := DrawPathOfBrackets_any v bs w10 r_code
            refine H.mono ?_; clear H; rintro e w11 ⟨sd, rfl, pd, b⟩
            have B11 := below_then B10 b
            replace r_code := r_code.below b
            clear B10 b
            clear r_code
            obtain ⟨R, dep, ar, HD1, HD2, HD3, HD4, HD5, HD6⟩ := br_law pd
            obtain ⟨lR, bR⟩ := R
            go_wp2_with fail
            have H := HD1.out w11
            refine H.mono ?_; clear H; rintro e w12 ⟨rfl, b⟩
            have B12 := below_then B11 b
            clear B11 b
            go_wp2_with fail
            have H := HD2.out w12
            refine H.mono ?_; clear H; rintro e w13 ⟨rfl, b⟩
            have B13 := below_then B12 b
            clear B12 b
            go_wp2_with fail
            have H := HD3.out w13
            refine H.mono ?_; clear H; rintro e w14 ⟨rfl, b⟩
            have B14 := below_then B13 b
            clear B13 b
            go_wp2_with fail
            have H := HD4.out w14
            refine H.mono ?_; clear H; rintro e w15 ⟨rfl, b⟩
            have B15 := below_then B14 b
            clear B14 b
            go_wp2_with fail
            have H := HD5.out w15
            refine H.mono ?_; clear H; rintro e w16 ⟨rfl, b⟩
            have B16 := below_then B15 b
            clear B15 b
            go_wp2_with fail
            have H := HD6.out w16
            refine H.mono ?_; clear H; rintro e w17 ⟨rfl, b⟩
            have B17 := below_then B16 b
            clear B16 b
            go_wp2_with fail
            go_ret
            exact ⟨rfl, B17⟩)

set_option maxRecDepth 100000 in
theorem lifted (os : Os) (started : os.Started) (H : Type) (enc : TypeId × Value → H) :
    ReturnsInHanded {} Try.checked os 6 .any (Rows.fnBracketsSpec.pre6 enc Try.prog Try.f6 Rows.fnBracketsRow.domain false) (Rows.fnBracketsSpec.post enc Try.prog Try.f6 false true false false) := by
  refine returnsInHanded_of_change (C := Try.checked) own started (by kernel_rfl) Try.func6
    (ChangeSpec.witness6 (enc := enc) (C := Try.checked) false ⟨#[], #[.slice none 0 0], []⟩ 8 (by kernel_rfl) (by kernel_rfl) (by kernel_rfl) (by kernel_rfl)) ?_
  intro W base args ds gs before hval0 hW hcnd _
  have hval : ∀ (j : Nat) t v, Try.f6.params[j]? = some t → args[j]? = some v → Value.okWide Try.prog W .any base t v := hval0
  have hW' := hW
  obtain ⟨p, q, hA0, hV, rfl, hfz, hnd⟩ := hW
  have hA : DataW.TrodAll enc Try.prog W 0 (fun _ => true) true Try.f6.params.toList args.toList ds p := hA0
  rw [Try.params6] at hA hval
  obtain ⟨v0, vs0, d0, ds0, p0, q0, hargs, rfl, rfl, h0, r0⟩ := trodAll_cons hA
  obtain ⟨rfl, rfl, rfl⟩ := trodAll_nil r0
  obtain rfl : args = #[v0] := by cases args; simp_all
  obtain ⟨rfl, rfl⟩ := trodVars_none hV
  obtain ⟨a0, len0, cap0, rfl⟩ := okWide_slice Try.underlying31 (hval 0 31 v0 rfl rfl)
  have k0 := h0
  have lt0 : ∀ x ∈ p0, x.block < W.heap.size := by obtain ⟨m, hm⟩ := k0; exact DataW.trod_lt m _ _ _ hm
  obtain ⟨z0, w0⟩ : ∃ zs, ArgB W (.slice a0 len0 cap0) zs := by
    obtain ⟨fuel, hf⟩ := h0
    rcases open_ints Try.underlying31 Try.underlying5 (by kernel_rfl) hf with ⟨hcs, _⟩ | ⟨x, l, c, zs, hcs, _, hl, hm, hz, _, hcell, hwz⟩
    · simp [Value.cells] at hcs
      obtain ⟨rfl, rfl, rfl⟩ := hcs
      exact ⟨[], ArgB.nil_ _⟩
    · simp [Value.cells] at hcs
      obtain ⟨rfl, rfl, rfl⟩ := hcs
      exact ⟨_, ArgB.of_row hl hm (by simpa using hz) hcell hwz⟩
  clear hA0 hval0
  refine (walk W (.slice a0 len0 cap0) z0 w0).mono fun e W' ⟨he, bel⟩ => ?_
  subst he
  exact ⟨_, rfl, _, _, _, [], _, [], hW', trodAll_mk1 (shut_bool Try.underlying4 _), (trodAll_cons_mk (Below.trod laidOut (by kernel_rfl) (of_decide_eq_true (by kernel_rfl)) k0 bel lt0) trodAll_mk0), rfl, bel.frame _, fun h => by cases h⟩

theorem over : Rows.fnBracketsRow.holds Try.pinned (OpenSpec.ofChange Rows.fnBracketsSpec) :=
  OpenClaim.holds_of_wide 6 Try.f6 rfl rfl rfl rfl rfl rfl rfl ⟨rfl, rfl, rfl, rfl, rfl⟩ rfl rfl rfl rfl rfl (by kernel_rfl) Try.func6 (by kernel_rfl)
    (of_decide_eq_true (by kernel_rfl)) (by unfold Func.isWrapper; first | (rw [if_pos (by decide +kernel)]; kernel_rfl) | (rw [if_neg (by decide +kernel)]; exact ⟨rfl, rfl⟩))
    (fun os started H enc _ => lifted os started H enc)

/-- the statement -/
theorem proved : Rows.FnBracketsSaid := over
#print axioms proved
end Go.Proofs.Ytnkkgfeegaiakaa.brackets
