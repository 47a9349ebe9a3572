/- The law FnParking returns true at every code: cars are parked at different places, displacement is what the path leaves, and paths carry all parking functions. No condition. -/
import Derived.Test.YtnkkgfeegaiakaaGround
import Derived.Test.YtnkkgfeegaiakaaFnWords
import Derived.Test.YtnkkgfeegaiakaaDrawPark
import Derived.Test.YtnkkgfeegaiakaaDrawTxt
import Derived.Test.YtnkkgfeegaiakaaPlain32
import Derived.Test.YtnkkgfeegaiakaaParkFn
import Derived.Test.YtnkkgfeegaiakaaPark
import Derived.Test.YtnkkgfeegaiakaaParkPath
import Derived.Test.YtnkkgfeegaiakaaParkSort
import Derived.Test.YtnkkgfeegaiakaaParkStat
import Derived.Test.YtnkkgfeegaiakaaParkOver
import Derived.Test.YtnkkgfeegaiakaaPathStat2
import Derived.Test.YtnkkgfeegaiakaaPathsL
namespace Go.Proofs.Ytnkkgfeegaiakaa.parking
open Go.ChangeShapes Go.WideShapes Go.ChangeAt Go.RowKit
open Go.ChangeMaps (open_string shut_string)
theorem placesR_cars {f : List Int} (h : (placesR f).2 = true) : CarsP f := (placesR_ok h).1
theorem sum_in {f : List Int} (h : CarsP f) : ∀ x ∈ f, 0 ≤ x ∧ x ≤ 6 := fun x hx => by
  obtain ⟨i, hi, e⟩ := List.getElem_of_mem hx
  have := CarOk.get hi (h.2 i hi)
  have := h.1
  omega
theorem sum_bd {f : List Int} (h : CarsP f) : 0 ≤ f.sum ∧ f.sum ≤ 36 := by
  have := take_sum_bd f (sum_in h) f.length
  rw [List.take_length] at this
  have := h.1
  omega
theorem pk_law {m : Nat} (hm : m < 6) : pkSum (pathsL m) (pathsL m).length = cpk (m : Int) ∧ ∀ k, k ≤ (pathsL m).length → 0 ≤ pkSum (pathsL m) k ∧ pkSum (pathsL m) k ≤ 1000000 := by
  have h := List.all_eq_true.1 pk_all m (List.mem_range.2 hm)
  rw [Bool.and_eq_true] at h
  have hl : (pathsL m).length ≤ 1000 := by
    have : ((List.range 6).all fun m => decide ((pathsL m).length ≤ 1000)) = true := by decide +kernel
    exact of_decide_eq_true (List.all_eq_true.1 this m (List.mem_range.2 hm))
  refine ⟨?_, ?_⟩
  · rw [of_decide_eq_true h.1]
    by_cases h0 : m = 0
    · subst h0; rfl
    · rw [if_neg h0]
      unfold cpk pw
      rw [if_pos (by omega), Int.toNat_natCast]
  · have hb : ∀ k, k ≤ (pathsL m).length → 0 ≤ pkSum (pathsL m) k ∧ pkSum (pathsL m) k ≤ 1000 * (k : Int) := by
      intro k
      induction k with
      | zero => intro _; exact ⟨Int.le_refl _, Int.le_refl _⟩
      | succ k ih =>
        intro hk
        have h1 := ih (by omega)
        rw [pkSum_succ hk]
        have h2 := of_decide_eq_true (List.all_eq_true.1 h.2 _ (List.getElem_mem hk))
        omega
    intro k hk
    have := hb k hk
    omega
set_option maxRecDepth 8000 in
set_option maxHeartbeats 8000000 in
theorem walk (w : World) (v : Value) (bs : List UInt8) (h : ArgB w v bs) :
    Calls Try.prog 10 #[v] w fun e w' => e = .returned (.bool true) ∧ Below w.heap.size w w' := by
  have HB := big_any v bs w h
  by_cases hbig : 1048576 < bs.length
  · rw [decide_eq_true hbig] at HB
    go_enter Try.func10, Try.ntmps10
    go_wp2_with fail
    refine HB.mono ?_; rintro e w1 ⟨rfl, rfl⟩
    go_wp2_with fail
    go_ret
    exact ⟨rfl, Below.refl _ _⟩
  · rw [decide_eq_false hbig] at HB
    have r_code : RdR bf w v bs := by
      obtain ⟨A, c, rfl, _, hr⟩ := h
      exact hr (by omega)
    have B0 := Below.refl w.heap.size w
    have hbl : bs.length ≤ 1048576 := by omega
    clear hbig h
    go_enter Try.func10, Try.ntmps10
    go_wp2_with fail
    refine HB.mono ?_; clear HB; rintro e w1 ⟨rfl, rfl⟩
    go_wp2_with fail
    have H := DrawPlacesOf_any v bs w r_code
    refine H.mono ?_; clear H; rintro e w1 ⟨rf, xf, rfl, r_f, pf, b⟩
    have B1 := below_then B0 b
    replace r_code := r_code.below b
    clear B0 b
    obtain ⟨Af, cf, rfl⟩ := r_f.shape
    go_wp2_with fail
    have H := implPlacesOf_any _ _ _ r_f
    refine H.mono ?_; clear H; rintro e w2 ⟨rp, rfl, op, b⟩
    have B2 := below_then B1 b
    replace r_code := r_code.below b
    replace r_f := r_f.below b
    clear B1 b
    have r_p := op.rd
    clear op
    go_wp2_with fail
    have H := specPlacesOf_any _ _ _ r_f
    refine H.mono ?_; clear H; rintro e w3 ⟨rq, rfl, oq, b⟩
    have B3 := below_then B2 b
    replace r_code := r_code.below b
    replace r_f := r_f.below b
    replace r_p := r_p.below b
    clear B2 b
    have r_q := oq.rd
    clear oq
    by_cases hP : (placesR xf).2 = true
    · have K := park_law hP
      have HC := Lib.hid (placesR_cars hP)
      have HIP := Lib.hid hP
      have KK := Lib.hid K
      rw [hP]
      clear hP
      obtain ⟨Aq, cq, e9⟩ := r_q.shape
      rw [K.len] at e9
      subst e9
      clear K
      go_wp2_with fail
      have H := to_below (sameInts_any _ _ _ _ _ r_p r_q)
      rw [decide_eq_true (rfl : (placesR xf).1 = (placesR xf).1)] at H
      refine H.mono ?_; clear H; rintro e w4 ⟨rfl, b⟩
      have B4 := below_then B3 b
      replace r_code := r_code.below b
      replace r_f := r_f.below b
      replace r_p := r_p.below b
      replace r_q := r_q.below b
      clear B3 b
      go_wp2_with fail
      clear r_p
      have H := implIsParking_any _ _ _ r_f
      rw [HIP.out] at H
      refine H.mono ?_; clear H; rintro e w5 ⟨rfl, b⟩
      have B5 := below_then B4 b
      replace r_code := r_code.below b
      replace r_f := r_f.below b
      replace r_q := r_q.below b
      clear B4 b
      go_wp2_with fail
      go_loopw [9] (fun i wr => ∃ k : Nat, k ≤ xf.length ∧ i = .int .i64 (k : Int) ∧ ∃ q, wr = w5.drewN q) (fun i _ => xf.length - (intOf i).toNat)
      case atStart => exact ⟨0, by omega, rfl, 0, rfl⟩
      case round =>
        obtain ⟨k, hk, rfl, q, rfl⟩ := hrel
        by_cases hlt : k < xf.length
        · have hlti : (k : Int) < (xf.length : Int) := by omega
          obtain ⟨b1, o1, rfl, _, h1⟩ := r_f.at_ (by omega)
          obtain ⟨b2, o2, rfl, _, h2⟩ := r_q.at_ (by rw [KK.out.len]; omega)
          have hkq : k < (placesR xf).1.length := by rw [KK.out.len]; exact hlt
          have c1 := h1 k hlt
          have c2 := h2 k hkq
          have H2 := Lib.hid h2
          have HON := Lib.hid (KK.out.on k hlt)
          rw [getD_of hlt, getD_of hkq] at HON
          have HNE := Lib.hid (KK.out.ne k hlt)
          have f1 : decide ((placesR xf).1[k] < xf[k]) = false := decide_eq_false (by have := HON.out; omega)
          clear h1 h2
          go_wp2_with fail
          go_quiet (fail)
          go_wp2_with fail
          go_loopw [10] (fun j wr => ∃ m : Nat, m ≤ k ∧ j = .int .i64 (m : Int) ∧ ∃ q, wr = w5.drewN q) (fun j _ => k - (intOf j).toNat)
          case atStart => exact ⟨0, by omega, rfl, _, drewN_two _ _ _⟩
          case round =>
            obtain ⟨m, hm, rfl, q2, rfl⟩ := hrel
            by_cases hmk : m < k
            · have hmki : (m : Int) < (k : Int) := by omega
              have hmq : m < (placesR xf).1.length := by omega
              have c3 := H2.out m hmq
              have hmi : (m : Int) < (xf.length : Int) := by omega
              have hne := HNE.out m hmk
              rw [getD_of hmq, getD_of hkq] at hne
              have f2 : ((placesR xf).1[m] == (placesR xf).1[k]) = false := beq_eq_false_iff_ne.2 hne
              clear hne
              go_wp2_with fail
              go_quiet (fail)
              go_wp2_with fail
              go_roundw
              case rel => exact ⟨m + 1, by omega, by go_num, _, rfl⟩
              case measure => simp [intOf]; omega
            · have hmki : ¬ (m : Int) < (k : Int) := by omega
              go_wp2_with fail
              go_roundw
              case rel => exact ⟨k + 1, by omega, by go_num, _, rfl⟩
              case measure => simp [intOf]; omega
        · have hlti : ¬ (k : Int) < (xf.length : Int) := by omega
          have hB := below_draws w5 q
          have B6 := below_then B5 hB
          replace r_code := r_code.below hB
          replace r_f := r_f.below hB
          replace r_q := r_q.below hB
          clear B5 hB
          generalize w5.drewN q = w6 at *
          have hn6 : xf.length ≤ 6 := pf
          obtain ⟨T, hT, hT2⟩ : ∃ T : Nat, (xf.length : Int) * ((xf.length : Int) + 1) = (T : Int) ∧ T ≤ 42 := ⟨xf.length * (xf.length + 1), by simp, Nat.mul_le_mul (show xf.length ≤ 6 by omega) (show xf.length + 1 ≤ 7 by omega)⟩
          have hTd : ((T : Int)).tdiv 2 = ((T / 2 : Nat) : Int) := by rw [Int.tdiv_eq_ediv_of_nonneg (by omega)]; omega
          have h1 := KK.out.disp
          have h2 : (xf.length : Int) * ((xf.length : Int) + 1) = (xf.length : Int) * xf.length + xf.length := by rw [Int.mul_add, Int.mul_one]
          have HD : Hid (dispV xf = ((T / 2 : Nat) : Int) - xf.sum) := Lib.hid (by omega)
          clear h1 h2
          have HSB := Lib.hid (sum_bd HC.out)
          have hS0 := HSB.out.1
          have hS1 := HSB.out.2
          go_wp2_with fail
          have H := implPathOfParking_any _ _ _ r_f
          rw [show ppR xf = ((ppR xf).1, true) from by have := HIP.out; unfold ppR; rw [if_pos this]] at H
          refine H.mono ?_; clear H; rintro e w7 ⟨rfl, b⟩
          have B7 := below_then B6 b
          replace r_code := r_code.below b
          replace r_f := r_f.below b
          replace r_q := r_q.below b
          clear B6 b
          go_wp2_with fail
          have H := implSortParking_any _ _ _ r_f
          rw [show spR xf = ((spR xf).1, true) from by have := HIP.out; unfold spR; rw [if_pos this]] at H
          refine H.mono ?_; clear H; rintro e w8 ⟨rs, rfl, os, b⟩
          have B8 := below_then B7 b
          replace r_code := r_code.below b
          replace r_f := r_f.below b
          replace r_q := r_q.below b
          clear B7 b
          have r_s := os.rd
          clear os
          go_wp2_with fail
          have H := implPathOfParking_any _ _ _ r_s
          rw [KK.out.path] at H
          refine H.mono ?_; clear H; rintro e w9 ⟨rfl, b⟩
          have B9 := below_then B8 b
          replace r_code := r_code.below b
          replace r_f := r_f.below b
          replace r_q := r_q.below b
          replace r_s := r_s.below b
          clear B8 b
          go_wp2_with fail
          clear r_s
          clear r_q
          have H := implDisplacementOf_any _ _ _ r_f
          rw [HD.out] at H
          refine H.mono ?_; clear H; rintro e w10 ⟨rfl, b⟩
          have B10 := below_then B9 b
          replace r_code := r_code.below b
          replace r_f := r_f.below b
          clear B9 b
          go_wp2_with fail
          have H := to_below' (total_any _ _ _ r_f (sum_in HC.out) pf)
          refine H.mono ?_; clear H; rintro e w11 ⟨rfl, b⟩
          have B11 := below_then B10 b
          replace r_code := r_code.below b
          replace r_f := r_f.below b
          clear B10 b
          go_wp2_with fail
          have H := implDisplacementOf_any _ _ _ r_f
          rw [KK.out.area] at H
          refine H.mono ?_; clear H; rintro e w12 ⟨rfl, b⟩
          have B12 := below_then B11 b
          replace r_code := r_code.below b
          replace r_f := r_f.below b
          clear B11 b
          go_wp2_with fail
          have H := implAreaOf_any (S (ppR xf).1) w12
          rw [L_S] at H
          refine H.mono ?_; clear H; rintro e w13 ⟨rfl, b⟩
          have B13 := below_then B12 b
          replace r_code := r_code.below b
          replace r_f := r_f.below b
          clear B12 b
          go_wp2_with fail
          clear r_f
          refine (at_any v bs w13 r_code hbl).mono ?_; rintro e w13' ⟨⟨x9, rfl⟩, rfl⟩
          obtain ⟨m9, hm9, hm6⟩ : ∃ m : Nat, ((x9 : Int)).tmod 6 = (m : Int) ∧ m < 6 := ⟨x9 % 6, by rw [Int.tmod_eq_emod_of_nonneg (by omega)]; exact (Int.natCast_emod x9 6).symm, Nat.mod_lt _ (by omega)⟩
          go_wp2_with fail
          have H := specPathsOf_any (m9 : Int) w13 (by unfold I64; omega)
          refine H.mono ?_; clear H; rintro e w14 ⟨rL, rfl, oL, b⟩
          have B14 := below_then B13 b
          replace r_code := r_code.below b
          clear B13 b
          have hpv : pathsV (m9 : Int) = pathsL m9 := by unfold pathsV; rw [if_pos (by omega)]; rfl
          rw [hpv] at oL
          have r_l := oL.rd
          clear oL hpv hm9
          obtain ⟨Al, cl, e9, _⟩ := id r_l
          subst e9
          obtain ⟨k1, k2⟩ := pk_law hm6
          have HL9 := Lib.hid (fun x (hx : x ∈ pathsL m9) => (pathsL_dyck (show m9 ≤ 6 by omega) hx).1.1)
          have HK2 := Lib.hid k2
          have HK1 := Lib.hid k1
          clear k1 k2
          generalize pathsL m9 = ps at *
          go_wp2_with fail
          go_loopw [19, 20] (fun x i wr => ∃ k : Nat, k ≤ ps.length ∧ i = .int .i64 (k : Int) ∧ x = .int .i64 (pkSum ps k) ∧ Below w14.heap.size w14 wr) (fun _ i _ => ps.length - (intOf i).toNat)
          case atStart => exact ⟨0, by omega, rfl, rfl, Below.refl _ _⟩
          case round =>
            obtain ⟨k, hk, rfl, rfl, hB⟩ := hrel
            by_cases hlt : k < ps.length
            · have hlti : (k : Int) < (ps.length : Int) := by omega
              obtain ⟨b1, o1, rfl, hb1, h1⟩ := r_l.at_ (by omega)
              have c1 := (hB.cell (p := ⟨b1, o1 + k, none⟩) hb1).trans (h1 k hlt)
              unfold sf at c1
              clear h1
              have HS := Lib.hid (pkSum_succ hlt)
              have hb0 := HK2.out k (by omega)
              have hb2 := HK2.out (k + 1) (by omega)
              have ew : wrap64 (pkSum ps k + pkV ps[k]) = pkSum ps k + pkV ps[k] := IntWalk.wrap64_in _ (by have := HS.out; exact ⟨by omega, by omega⟩)
              have ew2 : IntKind.i64.wrap (pkSum ps k + pkV ps[k]) = pkSum ps k + pkV ps[k] := IntWalk.i64_in _ (by have := HS.out; omega)
              have h9 : (S ps[k]).size ≤ 1099511627776 := by rw [S_size]; have := HL9.out ps[k] (List.getElem_mem hlt); omega
              go_wp2_with fail
              have H := implParkingsOver_any (S ps[k]) wr h9
              rw [L_S] at H
              refine H.mono ?_; clear H; rintro e w9 ⟨rfl, b9⟩
              go_wp2_with fail
              go_roundw
              case rel => exact ⟨k + 1, by omega, by go_num, by rw [HS.out], below_then hB b9⟩
              case measure => simp [intOf]; omega
            · have hlti : ¬ (k : Int) < (ps.length : Int) := by omega
              obtain rfl : k = ps.length := by omega
              have B15 := below_then B14 hB
              replace r_code := r_code.below hB
              clear B14 hB r_l
              rw [HK1.out]
              obtain ⟨w15, hwr⟩ : ∃ w15, w15 = wr := ⟨_, rfl⟩
              subst hwr
              go_wp2_with fail
              have H := to_below' (implCountParking_any (m9 : Int) w15)
              refine H.mono ?_; clear H; rintro e w16 ⟨rfl, b⟩
              have B16 := below_then B15 b
              replace r_code := r_code.below b
              clear B15 b
              go_wp2_with fail
              have H := DrawPathOfParking_any v bs w16 r_code
              refine H.mono ?_; clear H; rintro e w17 ⟨ra, xa, rfl, r_a, pa, b⟩
              have B17 := below_then B16 b
              replace r_code := r_code.below b
              clear B16 b
              obtain ⟨Aa, ca, rfl⟩ := r_a.shape
              go_wp2_with fail
              have H := implPathOfParking_any _ _ _ r_a
              refine H.mono ?_; clear H; rintro e w18 ⟨rfl, b⟩
              have B18 := below_then B17 b
              replace r_code := r_code.below b
              replace r_a := r_a.below b
              clear B17 b
              go_wp2_with fail
              have H := specPathOfParking_any _ _ _ r_a
              refine H.mono ?_; clear H; rintro e w19 ⟨rfl, b⟩
              have B19 := below_then B18 b
              replace r_code := r_code.below b
              replace r_a := r_a.below b
              clear B18 b
              go_wp2_with fail
              have H := DrawParkingsOver_any v bs w19 r_code
              refine H.mono ?_; clear H; rintro e w20 ⟨sb, rfl, pb, b⟩
              have B20 := below_then B19 b
              replace r_code := r_code.below b
              replace r_a := r_a.below b
              clear B19 b
              have hsb := pb.le
              go_wp2_with fail
              have H := DrawCountParking_any v bs w20 r_code
              refine H.mono ?_; clear H; rintro e w21 ⟨x8, rfl, _, b⟩
              have B21 := below_then B20 b
              replace r_code := r_code.below b
              replace r_a := r_a.below b
              clear B20 b
              go_wp2_with fail
              clear r_code
              have H := implSortParking_any _ _ _ r_a
              refine H.mono ?_; clear H; rintro e w22 ⟨rd, rfl, od, b⟩
              have B22 := below_then B21 b
              replace r_a := r_a.below b
              clear B21 b
              have r_d := od.rd
              clear od
              go_wp2_with fail
              have H := specSortParking_any _ _ _ r_a
              refine H.mono ?_; clear H; rintro e w23 ⟨re, rfl, oe, b⟩
              have B23 := below_then B22 b
              replace r_a := r_a.below b
              replace r_d := r_d.below b
              clear B22 b
              have r_e := oe.rd
              clear oe
              go_wp2_with fail
              have H := implParkingsOver_any sb w23 hsb
              refine H.mono ?_; clear H; rintro e w24 ⟨rfl, b⟩
              have B24 := below_then B23 b
              replace r_a := r_a.below b
              replace r_d := r_d.below b
              replace r_e := r_e.below b
              clear B23 b
              go_wp2_with fail
              have H := specParkingsOver_any sb w24 hsb
              refine H.mono ?_; clear H; rintro e w25 ⟨rfl, b⟩
              have B25 := below_then B24 b
              replace r_a := r_a.below b
              replace r_d := r_d.below b
              replace r_e := r_e.below b
              clear B24 b
              go_wp2_with fail
              have H := to_below' (implCountParking_any ((x8 : Int) - 1) w25)
              refine H.mono ?_; clear H; rintro e w26 ⟨rfl, b⟩
              have B26 := below_then B25 b
              replace r_a := r_a.below b
              replace r_d := r_d.below b
              replace r_e := r_e.below b
              clear B25 b
              go_wp2_with fail
              have H := to_below' (specCountParking_any ((x8 : Int) - 1) w26)
              refine H.mono ?_; clear H; rintro e w27 ⟨rfl, b⟩
              have B27 := below_then B26 b
              replace r_a := r_a.below b
              replace r_d := r_d.below b
              replace r_e := r_e.below b
              clear B26 b
              go_wp2_with fail
              have H := to_below (sameInts_any _ _ _ _ _ r_d r_e)
              rw [decide_eq_true (rfl : (spR xa).1 = (spR xa).1)] at H
              refine H.mono ?_; clear H; rintro e w28 ⟨rfl, b⟩
              have B28 := below_then B27 b
              replace r_a := r_a.below b
              replace r_d := r_d.below b
              replace r_e := r_e.below b
              clear B27 b
              go_wp2_with fail
              clear r_d
              clear r_e
              have H := implDisplacementOf_any _ _ _ r_a
              refine H.mono ?_; clear H; rintro e w29 ⟨rfl, b⟩
              have B29 := below_then B28 b
              replace r_a := r_a.below b
              clear B28 b
              go_wp2_with fail
              have H := specDisplacementOf_any _ _ _ r_a
              refine H.mono ?_; clear H; rintro e w30 ⟨rfl, b⟩
              have B30 := below_then B29 b
              replace r_a := r_a.below b
              clear B29 b
              go_wp2_with fail
              have H := implLuckyOf_any _ _ _ r_a
              refine H.mono ?_; clear H; rintro e w31 ⟨rfl, b⟩
              have B31 := below_then B30 b
              replace r_a := r_a.below b
              clear B30 b
              go_wp2_with fail
              have H := specLuckyOf_any _ _ _ r_a
              refine H.mono ?_; clear H; rintro e w32 ⟨rfl, b⟩
              have B32 := below_then B31 b
              replace r_a := r_a.below b
              clear B31 b
              go_wp2_with fail
              go_ret
              exact ⟨rfl, B32⟩
    · have HIP := Lib.hid (Bool.eq_false_iff.2 hP)
      rw [HIP.out]
      clear hP
      go_wp2_with fail
      have H := to_below (sameInts_any _ _ _ _ _ r_p r_q)
      rw [decide_eq_true (rfl : (placesR xf).1 = (placesR xf).1)] at H
      refine H.mono ?_; clear H; rintro e w4 ⟨rfl, b⟩
      have B4 := below_then B3 b
      replace r_code := r_code.below b
      replace r_f := r_f.below b
      replace r_p := r_p.below b
      replace r_q := r_q.below b
      clear B3 b
      go_wp2_with fail
      clear r_p
      clear r_q
      have H := implIsParking_any _ _ _ r_f
      rw [HIP.out] at H
      refine H.mono ?_; clear H; rintro e w5 ⟨rfl, b⟩
      have B5 := below_then B4 b
      replace r_code := r_code.below b
      replace r_f := r_f.below b
      clear B4 b
      go_wp2_with fail
      clear r_f
      refine (at_any v bs w5 r_code hbl).mono ?_; rintro e w5' ⟨⟨x9, rfl⟩, rfl⟩
      obtain ⟨m9, hm9, hm6⟩ : ∃ m : Nat, ((x9 : Int)).tmod 6 = (m : Int) ∧ m < 6 := ⟨x9 % 6, by rw [Int.tmod_eq_emod_of_nonneg (by omega)]; exact (Int.natCast_emod x9 6).symm, Nat.mod_lt _ (by omega)⟩
      go_wp2_with fail
      have H := specPathsOf_any (m9 : Int) w5 (by unfold I64; omega)
      refine H.mono ?_; clear H; rintro e w6 ⟨rL, rfl, oL, b⟩
      have B6 := below_then B5 b
      replace r_code := r_code.below b
      clear B5 b
      have hpv : pathsV (m9 : Int) = pathsL m9 := by unfold pathsV; rw [if_pos (by omega)]; rfl
      rw [hpv] at oL
      have r_l := oL.rd
      clear oL hpv hm9
      obtain ⟨Al, cl, e9, _⟩ := id r_l
      subst e9
      obtain ⟨k1, k2⟩ := pk_law hm6
      have HL9 := Lib.hid (fun x (hx : x ∈ pathsL m9) => (pathsL_dyck (show m9 ≤ 6 by omega) hx).1.1)
      have HK2 := Lib.hid k2
      have HK1 := Lib.hid k1
      clear k1 k2
      generalize pathsL m9 = ps at *
      go_wp2_with fail
      go_loopw [19, 20] (fun x i wr => ∃ k : Nat, k ≤ ps.length ∧ i = .int .i64 (k : Int) ∧ x = .int .i64 (pkSum ps k) ∧ Below w6.heap.size w6 wr) (fun _ i _ => ps.length - (intOf i).toNat)
      case atStart => exact ⟨0, by omega, rfl, rfl, Below.refl _ _⟩
      case round =>
        obtain ⟨k, hk, rfl, rfl, hB⟩ := hrel
        by_cases hlt : k < ps.length
        · have hlti : (k : Int) < (ps.length : Int) := by omega
          obtain ⟨b1, o1, rfl, hb1, h1⟩ := r_l.at_ (by omega)
          have c1 := (hB.cell (p := ⟨b1, o1 + k, none⟩) hb1).trans (h1 k hlt)
          unfold sf at c1
          clear h1
          have HS := Lib.hid (pkSum_succ hlt)
          have hb0 := HK2.out k (by omega)
          have hb2 := HK2.out (k + 1) (by omega)
          have ew : wrap64 (pkSum ps k + pkV ps[k]) = pkSum ps k + pkV ps[k] := IntWalk.wrap64_in _ (by have := HS.out; exact ⟨by omega, by omega⟩)
          have ew2 : IntKind.i64.wrap (pkSum ps k + pkV ps[k]) = pkSum ps k + pkV ps[k] := IntWalk.i64_in _ (by have := HS.out; omega)
          have h9 : (S ps[k]).size ≤ 1099511627776 := by rw [S_size]; have := HL9.out ps[k] (List.getElem_mem hlt); omega
          go_wp2_with fail
          have H := implParkingsOver_any (S ps[k]) wr h9
          rw [L_S] at H
          refine H.mono ?_; clear H; rintro e w9 ⟨rfl, b9⟩
          go_wp2_with fail
          go_roundw
          case rel => exact ⟨k + 1, by omega, by go_num, by rw [HS.out], below_then hB b9⟩
          case measure => simp [intOf]; omega
        · have hlti : ¬ (k : Int) < (ps.length : Int) := by omega
          obtain rfl : k = ps.length := by omega
          have B7 := below_then B6 hB
          replace r_code := r_code.below hB
          clear B6 hB r_l
          rw [HK1.out]
          obtain ⟨w7, hwr⟩ : ∃ w7, w7 = wr := ⟨_, rfl⟩
          subst hwr
          go_wp2_with fail
          have H := to_below' (implCountParking_any (m9 : Int) w7)
          refine H.mono ?_; clear H; rintro e w8 ⟨rfl, b⟩
          have B8 := below_then B7 b
          replace r_code := r_code.below b
          clear B7 b
          go_wp2_with fail
          have H := DrawPathOfParking_any v bs w8 r_code
          refine H.mono ?_; clear H; rintro e w9 ⟨ra, xa, rfl, r_a, pa, b⟩
          have B9 := below_then B8 b
          replace r_code := r_code.below b
          clear B8 b
          obtain ⟨Aa, ca, rfl⟩ := r_a.shape
          go_wp2_with fail
          have H := implPathOfParking_any _ _ _ r_a
          refine H.mono ?_; clear H; rintro e w10 ⟨rfl, b⟩
          have B10 := below_then B9 b
          replace r_code := r_code.below b
          replace r_a := r_a.below b
          clear B9 b
          go_wp2_with fail
          have H := specPathOfParking_any _ _ _ r_a
          refine H.mono ?_; clear H; rintro e w11 ⟨rfl, b⟩
          have B11 := below_then B10 b
          replace r_code := r_code.below b
          replace r_a := r_a.below b
          clear B10 b
          go_wp2_with fail
          have H := DrawParkingsOver_any v bs w11 r_code
          refine H.mono ?_; clear H; rintro e w12 ⟨sb, rfl, pb, b⟩
          have B12 := below_then B11 b
          replace r_code := r_code.below b
          replace r_a := r_a.below b
          clear B11 b
          have hsb := pb.le
          go_wp2_with fail
          have H := DrawCountParking_any v bs w12 r_code
          refine H.mono ?_; clear H; rintro e w13 ⟨x8, rfl, _, b⟩
          have B13 := below_then B12 b
          replace r_code := r_code.below b
          replace r_a := r_a.below b
          clear B12 b
          go_wp2_with fail
          clear r_code
          have H := implSortParking_any _ _ _ r_a
          refine H.mono ?_; clear H; rintro e w14 ⟨rd, rfl, od, b⟩
          have B14 := below_then B13 b
          replace r_a := r_a.below b
          clear B13 b
          have r_d := od.rd
          clear od
          go_wp2_with fail
          have H := specSortParking_any _ _ _ r_a
          refine H.mono ?_; clear H; rintro e w15 ⟨re, rfl, oe, b⟩
          have B15 := below_then B14 b
          replace r_a := r_a.below b
          replace r_d := r_d.below b
          clear B14 b
          have r_e := oe.rd
          clear oe
          go_wp2_with fail
          have H := implParkingsOver_any sb w15 hsb
          refine H.mono ?_; clear H; rintro e w16 ⟨rfl, b⟩
          have B16 := below_then B15 b
          replace r_a := r_a.below b
          replace r_d := r_d.below b
          replace r_e := r_e.below b
          clear B15 b
          go_wp2_with fail
          have H := specParkingsOver_any sb w16 hsb
          refine H.mono ?_; clear H; rintro e w17 ⟨rfl, b⟩
          have B17 := below_then B16 b
          replace r_a := r_a.below b
          replace r_d := r_d.below b
          replace r_e := r_e.below b
          clear B16 b
          go_wp2_with fail
          have H := to_below' (implCountParking_any ((x8 : Int) - 1) w17)
          refine H.mono ?_; clear H; rintro e w18 ⟨rfl, b⟩
          have B18 := below_then B17 b
          replace r_a := r_a.below b
          replace r_d := r_d.below b
          replace r_e := r_e.below b
          clear B17 b
          go_wp2_with fail
          have H := to_below' (specCountParking_any ((x8 : Int) - 1) w18)
          refine H.mono ?_; clear H; rintro e w19 ⟨rfl, b⟩
          have B19 := below_then B18 b
          replace r_a := r_a.below b
          replace r_d := r_d.below b
          replace r_e := r_e.below b
          clear B18 b
          go_wp2_with fail
          have H := to_below (sameInts_any _ _ _ _ _ r_d r_e)
          rw [decide_eq_true (rfl : (spR xa).1 = (spR xa).1)] at H
          refine H.mono ?_; clear H; rintro e w20 ⟨rfl, b⟩
          have B20 := below_then B19 b
          replace r_a := r_a.below b
          replace r_d := r_d.below b
          replace r_e := r_e.below b
          clear B19 b
          go_wp2_with fail
          clear r_d
          clear r_e
          have H := implDisplacementOf_any _ _ _ r_a
          refine H.mono ?_; clear H; rintro e w21 ⟨rfl, b⟩
          have B21 := below_then B20 b
          replace r_a := r_a.below b
          clear B20 b
          go_wp2_with fail
          have H := specDisplacementOf_any _ _ _ r_a
          refine H.mono ?_; clear H; rintro e w22 ⟨rfl, b⟩
          have B22 := below_then B21 b
          replace r_a := r_a.below b
          clear B21 b
          go_wp2_with fail
          have H := implLuckyOf_any _ _ _ r_a
          refine H.mono ?_; clear H; rintro e w23 ⟨rfl, b⟩
          have B23 := below_then B22 b
          replace r_a := r_a.below b
          clear B22 b
          go_wp2_with fail
          have H := specLuckyOf_any _ _ _ r_a
          refine H.mono ?_; clear H; rintro e w24 ⟨rfl, b⟩
          have B24 := below_then B23 b
          replace r_a := r_a.below b
          clear B23 b
          go_wp2_with fail
          go_ret
          exact ⟨rfl, B24⟩

set_option maxRecDepth 100000 in
theorem lifted (os : Os) (started : os.Started) (H : Type) (enc : TypeId × Value → H) :
    ReturnsInHanded {} Try.checked os 10 .any (Rows.fnParkingSpec.pre6 enc Try.prog Try.f10 Rows.fnParkingRow.domain false) (Rows.fnParkingSpec.post enc Try.prog Try.f10 false true false false) := by
  refine returnsInHanded_of_change (C := Try.checked) own started (by kernel_rfl) Try.func10
    (ChangeSpec.witness6 (enc := enc) (C := Try.checked) false ⟨#[], #[.slice none 0 0], []⟩ 8 (by kernel_rfl) (by kernel_rfl) (by kernel_rfl) (by kernel_rfl)) ?_
  intro W base args ds gs before hval0 hW hcnd _
  have hval : ∀ (j : Nat) t v, Try.f10.params[j]? = some t → args[j]? = some v → Value.okWide Try.prog W .any base t v := hval0
  have hW' := hW
  obtain ⟨p, q, hA0, hV, rfl, hfz, hnd⟩ := hW
  have hA : DataW.TrodAll enc Try.prog W 0 (fun _ => true) true Try.f10.params.toList args.toList ds p := hA0
  rw [Try.params10] at hA hval
  obtain ⟨v0, vs0, d0, ds0, p0, q0, hargs, rfl, rfl, h0, r0⟩ := trodAll_cons hA
  obtain ⟨rfl, rfl, rfl⟩ := trodAll_nil r0
  obtain rfl : args = #[v0] := by cases args; simp_all
  obtain ⟨rfl, rfl⟩ := trodVars_none hV
  obtain ⟨a0, len0, cap0, rfl⟩ := okWide_slice Try.underlying31 (hval 0 31 v0 rfl rfl)
  have k0 := h0
  have lt0 : ∀ x ∈ p0, x.block < W.heap.size := by obtain ⟨m, hm⟩ := k0; exact DataW.trod_lt m _ _ _ hm
  obtain ⟨z0, w0⟩ : ∃ zs, ArgB W (.slice a0 len0 cap0) zs := by
    obtain ⟨fuel, hf⟩ := h0
    rcases open_ints Try.underlying31 Try.underlying5 (by kernel_rfl) hf with ⟨hcs, _⟩ | ⟨x, l, c, zs, hcs, _, hl, hm, hz, _, hcell, hwz⟩
    · simp [Value.cells] at hcs
      obtain ⟨rfl, rfl, rfl⟩ := hcs
      exact ⟨[], ArgB.nil_ _⟩
    · simp [Value.cells] at hcs
      obtain ⟨rfl, rfl, rfl⟩ := hcs
      exact ⟨_, ArgB.of_row hl hm (by simpa using hz) hcell hwz⟩
  clear hA0 hval0
  refine (walk W (.slice a0 len0 cap0) z0 w0).mono fun e W' ⟨he, bel⟩ => ?_
  subst he
  exact ⟨_, rfl, _, _, _, [], _, [], hW', trodAll_mk1 (shut_bool Try.underlying4 _), (trodAll_cons_mk (Below.trod laidOut (by kernel_rfl) (of_decide_eq_true (by kernel_rfl)) k0 bel lt0) trodAll_mk0), rfl, bel.frame _, fun h => by cases h⟩

theorem over : Rows.fnParkingRow.holds Try.pinned (OpenSpec.ofChange Rows.fnParkingSpec) :=
  OpenClaim.holds_of_wide 10 Try.f10 rfl rfl rfl rfl rfl rfl rfl ⟨rfl, rfl, rfl, rfl, rfl⟩ rfl rfl rfl rfl rfl (by kernel_rfl) Try.func10 (by kernel_rfl)
    (of_decide_eq_true (by kernel_rfl)) (by unfold Func.isWrapper; first | (rw [if_pos (by decide +kernel)]; kernel_rfl) | (rw [if_neg (by decide +kernel)]; exact ⟨rfl, rfl⟩))
    (fun os started H enc _ => lifted os started H enc)

/-- the statement -/
theorem proved : Rows.FnParkingSaid := over
#print axioms proved
end Go.Proofs.Ytnkkgfeegaiakaa.parking
