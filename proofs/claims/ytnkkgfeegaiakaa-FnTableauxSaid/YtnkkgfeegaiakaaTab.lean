/- Contracts of IsTableau, the program's and the reference's: both return whether the rows are a tableau. No condition. -/
import Derived.Test.YtnkkgfeegaiakaaNum
import Derived.Test.YtnkkgfeegaiakaaGround
import Derived.Test.YtnkkgfeegaiakaaPlain8
namespace Go.Proofs.Ytnkkgfeegaiakaa
open Go.RowKit
/-- two rows of equal length, at hand at the head of a slice of slices -/
theorem RdSS.two {w : World} {A : Option Addr} {n c : Nat} {t : List (List Int)} (h : RdSS w (.slice A n c) t) (h2 : t.length = 2) :
    ∃ b o, A = some ⟨b, o, none⟩ ∧ b < w.heap.size ∧ ∃ A0 c0 A1 c1, w.cell? ⟨b, o, none⟩ = some (.slice A0 (rw_ t 0).length c0) ∧ w.cell? ⟨b, o + 1, none⟩ = some (.slice A1 (rw_ t 1).length c1) ∧
      RdI w (.slice A0 (rw_ t 0).length c0) (rw_ t 0) ∧ RdI w (.slice A1 (rw_ t 1).length c1) (rw_ t 1) := by
  obtain ⟨b, o, e, hlt, hc⟩ := h.at_ (by omega)
  obtain ⟨u0, hu0, hr0⟩ := hc 0 (by omega)
  obtain ⟨u1, hu1, hr1⟩ := hc 1 (by omega)
  have e0 : rw_ t 0 = t[0] := getD_of (by omega) []
  have e1 : rw_ t 1 = t[1] := getD_of (by omega) []
  rw [← e0] at hr0
  rw [← e1] at hr1
  obtain ⟨A0, c0, rfl, _⟩ := id hr0
  obtain ⟨A1, c1, rfl, _⟩ := id hr1
  exact ⟨b, o, e, hlt, A0, c0, A1, c1, hu0, hu1, hr0, hr1⟩
set_option maxRecDepth 100000 in
set_option maxHeartbeats 1600000 in
theorem specIsTableau_any (v : Value) (t : List (List Int)) (w : World) (hv : RdSS w v t) :
    Calls Try.prog 177 #[v] w fun e w' => e = .returned (.bool (decide (TabP t))) ∧ ∃ q, w' = w.drewN q := by
  have hv0 := hv
  obtain ⟨A, c, rfl, hc, hl, _⟩ := hv
  by_cases h2 : t.length = 2
  · obtain ⟨b, o, rfl, hb, A0, c0, A1, c1, d0, d1, r0, r1⟩ := hv0.two h2
    have hi0 : (0 : Int) < (t.length : Int) := by omega
    have hi1 : (1 : Int) < (t.length : Int) := by omega
    have hne2 : ((t.length : Int) != 2) = false := by simp; omega
    have H2 := Lib.hid h2
    clear h2
    generalize ha : rw_ t 0 = a at d0 r0
    generalize hbb : rw_ t 1 = bb at d1 r1
    have HA := Lib.hid ha
    have HBB := Lib.hid hbb
    clear ha hbb
    by_cases hab : a.length = bb.length
    · have HAB := Lib.hid hab
      have hneab : ((a.length : Int) != (bb.length : Int)) = false := by rw [HAB.out]; simp
      have hlab : a.length ≤ bb.length := by omega
      have hlba : bb.length ≤ a.length := by omega
      clear hab
      by_cases h8 : a.length ≤ 8
      · have HT := Lib.hid (show TabP t ↔ ∀ r, r < 2 → ∀ i, i < a.length → SpecAt a bb r i by
          unfold TabP
          rw [HA.out, HBB.out, ← rowsP_spec HAB.out h8]
          exact ⟨fun h => h.2, fun h => ⟨H2.out, h⟩⟩)
        have h8' : ¬ (8 : Int) < (a.length : Int) := by omega
        go_enter Try.func177, Try.ntmps177
        go_wp2_with fail
        go_quiet (fail)
        go_wp2_with fail
        go_loopw [4] (fun x wr => ∃ r : Nat, r ≤ 2 ∧ x = .int .i64 r ∧ Hid (∀ r', r' < r → ∀ i, i < a.length → SpecAt a bb r' i) ∧ ∃ q, wr = w.drewN q) (fun x _ => 2 - (intOf x).toNat)
        case atStart => exact ⟨0, by omega, rfl, fun r' h => absurd h (by omega), _, rfl⟩
        case round =>
          obtain ⟨r, hr, rfl, HR, q1, rfl⟩ := hrel
          by_cases hr2 : r < 2
          · have hr2' : (r : Int) < 2 := by omega
            have hrt : (r : Int) < (t.length : Int) := by omega
            have hrow : ∃ Ar cr, w.cell? ⟨b, o + r, none⟩ = some (.slice Ar a.length cr) ∧ (0 < a.length → ∃ b' o', Ar = some ⟨b', o', none⟩ ∧ ∀ k, k < a.length → w.cell? ⟨b', o' + k, none⟩ = some (.int .i64 ((if r = 0 then a else bb).getD k 0))) := by
              rcases (show r = 0 ∨ r = 1 from by omega) with rfl | rfl
              · refine ⟨A0, c0, d0, fun h => ?_⟩
                obtain ⟨b', o', e, _, hc'⟩ := r0.at_ h
                exact ⟨b', o', e, fun k hk => by rw [hc' k hk, if_pos rfl, getD_of hk]⟩
              · refine ⟨A1, c1, by rw [d1, HAB.out], fun h => ?_⟩
                obtain ⟨b', o', e, _, hc'⟩ := r1.at_ (by omega)
                exact ⟨b', o', e, fun k hk => by rw [hc' k (by omega), if_neg (by omega), getD_of (by omega)]⟩
            obtain ⟨Ar, cr, dr, hrc⟩ := hrow
            go_wp2_with fail
            go_loopw [5] (fun x wr => ∃ i : Nat, i ≤ a.length ∧ x = .int .i64 i ∧ Hid (∀ i', i' < i → SpecAt a bb r i') ∧ ∃ q, wr = w.drewN q) (fun x _ => a.length - (intOf x).toNat)
            case atStart => exact ⟨0, by omega, rfl, fun r' h => absurd h (by omega), _, rfl⟩
            case round =>
              obtain ⟨i, hi, rfl, HI, q2, rfl⟩ := hrel
              by_cases hlt : i < a.length
              · obtain ⟨b0, o0, rfl, _, hc0⟩ := r0.at_ (by omega)
                obtain ⟨b1, o1, rfl, _, hc1⟩ := r1.at_ (by omega)
                obtain ⟨br, or, rfl, hcr⟩ := hrc (by omega)
                have f0 := hc0 i hlt
                have f1 := hc1 i (by omega)
                have fr := hcr i hlt
                have HC1 := Lib.hid hc1
                have HCR := Lib.hid hcr
                clear hc0 hc1 hcr hrc
                have hltb : i < bb.length := by omega
                have hlti : (i : Int) < (a.length : Int) := by omega
                have hltib : (i : Int) < (bb.length : Int) := by omega
                have hw2 : IntKind.i64.wrap (2 * (a.length : Int)) = 2 * (a.length : Int) := IntWalk.i64_in _ (by omega)
                have HNOT : Hid (¬ SpecAt a bb r i → ¬ TabP t) := fun h ht => h (HT.out.1 ht r hr2 i hlt)
                obtain ⟨X, hX⟩ : ∃ X, X = (if r = 0 then a else bb).getD i 0 := ⟨_, rfl⟩
                rw [← hX] at fr
                have HX := Lib.hid hX
                clear hX
                by_cases hin : 1 ≤ X ∧ X ≤ 2 * (a.length : Int)
                · obtain ⟨hx1, hx2⟩ := hin
                  have HIN : Hid (∀ (w : World), Calls Try.prog 185 #[.int .i64 X, .int .i64 1, .int .i64 (2 * (a.length : Int))] w fun e w' => e = .returned (.bool true) ∧ w = w') := fun w => l1In_yes _ _ _ w hx1 hx2
                  by_cases hz : i = 0
                  · have g1 : ¬ (0 : Int) < (i : Int) := by omega
                    have g2 : decide (0 < i) = false := by simp; omega
                    have HZ := Lib.hid hz
                    clear hz
                    by_cases hc3 : bb[i] ≤ a[i]
                    · have HC := Lib.hid (HNOT.out (fun h => by have := h.2.1; rw [getD_of hlt, getD_of hltb] at this; omega))
                      go_wp2_with fail
                      go_quiet ((go_at_call 185; go_simp; exact quiet_add_left (HIN.out _)))
                      go_wp2_with fail
                      go_ret
                      exact ⟨ret_bool (by simp [HC.out]), _, by first | rfl | exact drewN_two _ _ _⟩
                    · have HLT : Hid (a.getD i 0 < bb.getD i 0) := by show _ < _; rw [getD_of hlt, getD_of hltb]; omega
                      go_wp2_with fail
                      go_quiet ((go_at_call 185; go_simp; exact quiet_add_left (HIN.out _)))
                      go_wp2_with fail
                      go_loopw [6] (fun x wr => ∃ k : Nat, k ≤ a.length ∧ x = .int .i64 k ∧ Hid (∀ k', k' < k → a.getD i 0 ≠ bb.getD k' 0) ∧ ∃ q, wr = w.drewN q) (fun x _ => a.length - (intOf x).toNat)
                      case atStart => exact ⟨0, by omega, rfl, fun k' h => absurd h (by omega), _, drewN_two _ _ _⟩
                      case round =>
                        obtain ⟨k, hk, rfl, HK, q3, rfl⟩ := hrel
                        by_cases hkl : k < a.length
                        · have f2 := HC1.out k (by omega)
                          have hklb : (k : Int) < (bb.length : Int) := by omega
                          by_cases he : a[i] = bb[k]'(by omega)
                          · have e1 : (a[i] == bb[k]'(by omega)) = true := by simpa using he
                            have HC := Lib.hid (HNOT.out (fun h => h.2.2 k hkl (by rw [getD_of hlt, getD_of (by omega)]; exact he)))
                            clear he
                            go_wp2_with fail
                            go_quiet (fail)
                            go_wp2_with fail
                            go_ret
                            exact ⟨ret_bool (by simp [HC.out]), _, by first | rfl | exact drewN_two _ _ _⟩
                          · have e1 : (a[i] == bb[k]'(by omega)) = false := by simpa using he
                            have HE := Lib.hid he
                            clear he
                            go_wp2_with fail
                            go_quiet (fail)
                            go_wp2_with fail
                            go_roundw
                            case rel =>
                              refine ⟨k + 1, by omega, by go_num, fun k' h => ?_, _, rfl⟩
                              rcases Nat.lt_or_ge k' k with h1 | h1
                              · exact HK.out k' h1
                              · obtain rfl : k' = k := by omega
                                rw [getD_of hlt, getD_of (by omega)]; exact HE.out
                            case measure => simp [intOf]; omega
                        · go_wp2_with fail
                          go_roundw
                          case rel =>
                            refine ⟨i + 1, by omega, by go_num, fun i' h => ?_, _, rfl⟩
                            rcases Nat.lt_or_ge i' i with h1 | h1
                            · exact HI.out i' h1
                            · obtain rfl : i' = i := by omega
                              exact ⟨⟨by rw [← HX.out]; exact hx1, by rw [← HX.out]; exact hx2, fun h => absurd h (by have := HZ.out; omega)⟩, HLT.out, fun k' h' => HK.out k' (by omega)⟩
                          case measure => simp [intOf]; omega
                  · obtain ⟨j, rfl⟩ : ∃ j, i = j + 1 := ⟨i - 1, by omega⟩
                    have g1 : (0 : Int) < (j : Int) + 1 := by omega
                    have g4 : IntKind.i64.wrap (j : Int) = (j : Int) := IntWalk.i64_in _ (by omega)
                    have fp := HCR.out j (by omega)
                    have g5 : (j : Int) < (a.length : Int) := by omega
                    have g6 : (j : Int) + 1 < (a.length : Int) := by omega
                    have g7 : (j : Int) + 1 < (bb.length : Int) := by omega
                    have g8 : ((j : Int) + 1).toNat = j + 1 := by omega
                    have g9 : (0 : Int) ≤ (j : Int) + 1 := by omega
                    obtain ⟨Y, hY⟩ : ∃ Y, Y = (if r = 0 then a else bb).getD j 0 := ⟨_, rfl⟩
                    rw [← hY] at fp
                    have HY := Lib.hid hY
                    clear hY hz
                    by_cases hasc : X ≤ Y
                    · have hdec : decide (X ≤ Y) = true := by simpa using hasc
                      have HC := Lib.hid (HNOT.out (fun h => by have := h.1.2.2 (by omega); rw [Nat.add_sub_cancel, ← HX.out, ← HY.out] at this; omega))
                      go_wp2_with fail
                      go_quiet ((go_at_call 185; go_simp; exact quiet_add_left (HIN.out _)))
                      go_wp2_with fail
                      go_ret
                      exact ⟨ret_bool (by simp [HC.out]), _, by first | rfl | exact drewN_two _ _ _⟩
                    · have HAS := Lib.hid hasc
                      have hdec : decide (X ≤ Y) = false := by simpa using hasc
                      by_cases hc3 : bb[j + 1] ≤ a[j + 1]
                      · have HC := Lib.hid (HNOT.out (fun h => by have := h.2.1; rw [getD_of hlt, getD_of hltb] at this; omega))
                        go_wp2_with fail
                        go_quiet ((go_at_call 185; go_simp; exact quiet_add_left (HIN.out _)))
                        go_wp2_with fail
                        go_ret
                        exact ⟨ret_bool (by simp [HC.out]), _, by first | rfl | exact drewN_two _ _ _⟩
                      · have HLT : Hid (a.getD (j + 1) 0 < bb.getD (j + 1) 0) := by show _ < _; rw [getD_of hlt, getD_of hltb]; omega
                        go_wp2_with fail
                        go_quiet ((go_at_call 185; go_simp; exact quiet_add_left (HIN.out _)))
                        go_wp2_with fail
                        go_loopw [6] (fun x wr => ∃ k : Nat, k ≤ a.length ∧ x = .int .i64 k ∧ Hid (∀ k', k' < k → a.getD (j + 1) 0 ≠ bb.getD k' 0) ∧ ∃ q, wr = w.drewN q) (fun x _ => a.length - (intOf x).toNat)
                        case atStart => exact ⟨0, by omega, rfl, fun k' h => absurd h (by omega), _, drewN_two _ _ _⟩
                        case round =>
                          obtain ⟨k, hk, rfl, HK, q3, rfl⟩ := hrel
                          by_cases hkl : k < a.length
                          · have f2 := HC1.out k (by omega)
                            have hklb : (k : Int) < (bb.length : Int) := by omega
                            by_cases he : a[j + 1] = bb[k]'(by omega)
                            · have e1 : (a[j + 1] == bb[k]'(by omega)) = true := by simpa using he
                              have HC := Lib.hid (HNOT.out (fun h => h.2.2 k hkl (by rw [getD_of hlt, getD_of (by omega)]; exact he)))
                              clear he
                              go_wp2_with fail
                              go_quiet (fail)
                              go_wp2_with fail
                              go_ret
                              exact ⟨ret_bool (by simp [HC.out]), _, by first | rfl | exact drewN_two _ _ _⟩
                            · have e1 : (a[j + 1] == bb[k]'(by omega)) = false := by simpa using he
                              have HE := Lib.hid he
                              clear he
                              go_wp2_with fail
                              go_quiet (fail)
                              go_wp2_with fail
                              go_roundw
                              case rel =>
                                refine ⟨k + 1, by omega, by go_num, fun k' h => ?_, _, rfl⟩
                                rcases Nat.lt_or_ge k' k with h1 | h1
                                · exact HK.out k' h1
                                · obtain rfl : k' = k := by omega
                                  rw [getD_of hlt, getD_of (by omega)]; exact HE.out
                              case measure => simp [intOf]; omega
                          · go_wp2_with fail
                            go_roundw
                            case rel =>
                              refine ⟨j + 1 + 1, by omega, by go_num, fun i' h => ?_, _, rfl⟩
                              rcases Nat.lt_or_ge i' (j + 1) with h1 | h1
                              · exact HI.out i' h1
                              · obtain rfl : i' = j + 1 := by omega
                                exact ⟨⟨by rw [← HX.out]; exact hx1, by rw [← HX.out]; exact hx2, fun h => by rw [Nat.add_sub_cancel, ← HX.out, ← HY.out]; have := HAS.out; omega⟩, HLT.out, fun k' h' => HK.out k' (by omega)⟩
                            case measure => simp [intOf]; omega
                · have HC := Lib.hid (HNOT.out (fun h => hin (by rw [HX.out]; exact ⟨h.1.1, h.1.2.1⟩)))
                  have HIN : Hid (∀ (w : World), Calls Try.prog 185 #[.int .i64 X, .int .i64 1, .int .i64 (2 * (a.length : Int))] w fun e w' => e = .returned (.bool false) ∧ w = w') := fun w => l1In_no _ _ _ w hin
                  go_wp2_with fail
                  go_quiet ((go_at_call 185; go_simp; exact quiet_add_left (HIN.out _)))
                  go_wp2_with fail
                  go_ret
                  exact ⟨ret_bool (by simp [HC.out]), _, by first | rfl | exact drewN_two _ _ _⟩
              · have hlti : ¬ (i : Int) < (a.length : Int) := by omega
                go_wp2_with fail
                go_roundw
                case rel =>
                  refine ⟨r + 1, by omega, by go_num, fun r' h => ?_, _, rfl⟩
                  rcases Nat.lt_or_ge r' r with h1 | h1
                  · exact HR.out r' h1
                  · obtain rfl : r' = r := by omega
                    exact fun i' hi' => HI.out i' (by omega)
                case measure => simp [intOf]; omega
          · have HF : Hid (TabP t) := HT.out.2 (fun r' h => HR.out r' (by omega))
            have hr2' : ¬ (r : Int) < 2 := by omega
            go_wp2_with fail
            go_ret
            exact ⟨ret_bool (by simp [HF.out]), q1, rfl⟩
      · have HF : Hid (¬ TabP t) := fun h => h8 (by rw [← HA.out]; exact h.2.2.1)
        have h8' : (8 : Int) < (a.length : Int) := by omega
        go_enter Try.func177, Try.ntmps177
        go_wp2_with fail
        go_quiet (fail)
        go_wp2_with fail
        go_ret
        exact ⟨ret_bool (by simp [HF.out]), _, rfl⟩
    · have HF : Hid (¬ TabP t) := fun h => hab (by rw [← HA.out, ← HBB.out]; exact h.2.1)
      have hneab : ((a.length : Int) != (bb.length : Int)) = true := by simp; omega
      go_enter Try.func177, Try.ntmps177
      go_wp2_with fail
      go_quiet (fail)
      go_wp2_with fail
      go_ret
      exact ⟨ret_bool (by simp [HF.out]), _, rfl⟩
  · have HF : Hid (¬ TabP t) := fun h => h2 h.1
    have hne2 : ((t.length : Int) != 2) = true := by simp; omega
    go_enter Try.func177, Try.ntmps177
    go_wp2_with fail
    go_quiet (fail)
    go_wp2_with fail
    go_ret
    exact ⟨ret_bool (by simp [HF.out]), _, rfl⟩
end Go.Proofs.Ytnkkgfeegaiakaa
