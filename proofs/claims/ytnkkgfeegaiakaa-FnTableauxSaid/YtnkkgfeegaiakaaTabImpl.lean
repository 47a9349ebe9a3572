/- Contract of the program's IsTableau: returns whether the rows are a tableau. No condition. -/
import Derived.Test.YtnkkgfeegaiakaaTab
namespace Go.Proofs.Ytnkkgfeegaiakaa
open Go.RowKit
theorem info_boolT : (Try.prog.info? 4).map (fun i => (i.zero, i.size, i.bytes)) = some (some (Value.bool false), 1, 1) := by kernel_rfl
theorem accOf_zero (a b : List Int) : accOf a b 0 0 = [] := by simp [accOf]
theorem accOf_one (a b : List Int) : accOf a b 1 0 = a := by simp [accOf]
theorem accOf_full (a b : List Int) : accOf a b 0 a.length = a := by simp [accOf]
theorem accOf_succ {a b : List Int} (he : a.length = b.length) {r i : Nat} (hi : i < a.length) : accOf a b r (i + 1) = accOf a b r i ++ [(if r = 0 then a else b).getD i 0] := by
  unfold accOf
  by_cases h : r = 0
  · rw [if_pos h, if_pos h, if_pos h, take_succ_get _ _ hi, getD_of hi]
  · rw [if_neg h, if_neg h, if_neg h, take_succ_get _ _ (by omega), getD_of (by omega), List.append_assoc]
set_option maxRecDepth 100000 in
set_option maxHeartbeats 1600000 in
theorem implIsTableau_any (v : Value) (t : List (List Int)) (w : World) (hv : RdSS w v t) :
    Calls Try.prog 25 #[v] w fun e w' => e = .returned (.bool (decide (TabP t))) ∧ Below w.heap.size w w' := by
  have hv0 := hv
  obtain ⟨A, c, rfl, hc, hl, _⟩ := hv
  by_cases h2 : t.length = 2
  · obtain ⟨b, o, rfl, hb, A0, c0, A1, c1, d0, d1, r0, r1⟩ := hv0.two h2
    have hi0 : (0 : Int) < (t.length : Int) := by omega
    have hi1 : (1 : Int) < (t.length : Int) := by omega
    have hne2 : ((t.length : Int) != 2) = false := by simp; omega
    have H2 := Lib.hid h2
    clear h2
    generalize ha : rw_ t 0 = a at d0 r0
    generalize hbb : rw_ t 1 = bb at d1 r1
    have HA := Lib.hid ha
    have HBB := Lib.hid hbb
    clear ha hbb hv0
    by_cases hab : a.length = bb.length
    · have HAB := Lib.hid hab
      have hneab : ((a.length : Int) != (bb.length : Int)) = false := by rw [HAB.out]; simp
      have hlab : a.length ≤ bb.length := by omega
      have hlba : bb.length ≤ a.length := by omega
      clear hab
      by_cases h8 : a.length ≤ 8
      · have HT := Lib.hid (show TabP t ↔ (∀ r, r < 2 → ∀ i, i < a.length → ImplAt a bb r i) ∧ ∀ i, i < a.length → a.getD i 0 < bb.getD i 0 by
          unfold TabP
          rw [HA.out, HBB.out, ← rowsP_impl HAB.out h8]
          exact ⟨fun h => h.2, fun h => ⟨H2.out, h⟩⟩)
        have h8' : ¬ (8 : Int) < (a.length : Int) := by omega
        have hw2 : IntKind.i64.wrap (2 * (a.length : Int)) = 2 * (a.length : Int) := IntWalk.i64_in _ (by omega)
        go_enter Try.func25, Try.ntmps25
        go_wp2_with fail
        go_quiet (fail)
        go_wp2_with (at_make; refine wpList_makeR (f := Value.bool) _ rfl _ _ 91 rfl 4 false 1 Try.underlying91 info_boolT rfl (by omega) _ _ _ _ (2 * a.length + 1) rfl rfl (by go_num) (by go_num) (by omega) ?_)
        intro w1 htk0 b1
        have hB0 := below_then (below_draws w _) b1
        have hTB : w.heap.size ≤ w.heap.size := Nat.le_refl _
        have hts : (World.drewN w 1).heap.size = w.heap.size := rfl
        go_wp2_with fail
        go_loopw [41] (fun x wr => ∃ (r : Nat) (acc : List Int), r ≤ 2 ∧ x = .int .i64 r ∧ Hid (r < 2 → acc = accOf a bb r 0) ∧ Hid (∀ r', r' < r → ∀ i, i < a.length → ImplAt a bb r' i) ∧ OwR 4 Value.bool wr w.heap.size (.slice (some ⟨w.heap.size, 0, none⟩) (2 * a.length + 1) (2 * a.length + 1)) (tkL acc (2 * a.length + 1)) ∧ Below w.heap.size w wr) (fun x _ => 2 - (intOf x).toNat)
        case atStart => exact ⟨0, [], by omega, rfl, fun _ => (accOf_zero a bb).symm, fun r' h => absurd h (by omega), by rw [tkL_nil]; exact htk0, hB0⟩
        case round =>
          clear htk0 hB0 b1
          obtain ⟨r, acc, hr, rfl, HAC, HR, htk, hB⟩ := hrel
          by_cases hr2 : r < 2
          · have hrt : (r : Int) < (t.length : Int) := by have := H2.out; omega
            have hrow : ∃ Ar cr, w.cell? ⟨b, o + r, none⟩ = some (.slice Ar a.length cr) ∧ (0 < a.length → ∃ b' o', Ar = some ⟨b', o', none⟩ ∧ b' < w.heap.size ∧ ∀ k, k < a.length → w.cell? ⟨b', o' + k, none⟩ = some (.int .i64 ((if r = 0 then a else bb).getD k 0))) := by
              rcases (show r = 0 ∨ r = 1 from by omega) with rfl | rfl
              · refine ⟨A0, c0, d0, fun h => ?_⟩
                obtain ⟨b', o', e, hlt, hc'⟩ := r0.at_ h
                exact ⟨b', o', e, hlt, fun k hk => by rw [hc' k hk, if_pos rfl, getD_of hk]⟩
              · refine ⟨A1, c1, by rw [d1, HAB.out], fun h => ?_⟩
                obtain ⟨b', o', e, hlt, hc'⟩ := r1.at_ (by omega)
                exact ⟨b', o', e, hlt, fun k hk => by rw [hc' k (by omega), if_neg (by omega), getD_of (by omega)]⟩
            obtain ⟨Ar, cr, dr, hrc⟩ := hrow
            have dr := (hB.cell (p := ⟨b, o + r, none⟩) hb).trans dr
            have HAC2 := Lib.hid (HAC.out hr2)
            have HRC := Lib.hid hrc
            clear hrc
            go_wp2_with fail
            go_loopw [47] (fun x wr => ∃ (i : Nat) (acc : List Int), i ≤ a.length ∧ x = .int .i64 i ∧ Hid (acc = accOf a bb r i) ∧ Hid (∀ i', i' < i → ImplAt a bb r i') ∧ OwR 4 Value.bool wr w.heap.size (.slice (some ⟨w.heap.size, 0, none⟩) (2 * a.length + 1) (2 * a.length + 1)) (tkL acc (2 * a.length + 1)) ∧ Below w.heap.size w wr) (fun x _ => a.length - (intOf x).toNat)
            case atStart => exact ⟨0, acc, by omega, rfl, HAC2.out, fun r' h => absurd h (by omega), htk, hB⟩
            case round =>
              clear htk hB dr
              obtain ⟨i, acc, hi, rfl, HAI, HI, htk, hB⟩ := hrel
              by_cases hlt : i < a.length
              · obtain ⟨br, or, rfl, hbr, hcr⟩ := HRC.out (by omega)
                have fr := (hB.cell (p := ⟨br, or + i, none⟩) hbr).trans (hcr i hlt)
                have HNOT : Hid (¬ ImplAt a bb r i → ¬ TabP t) := fun h ht => h ((HT.out.1 ht).1 r hr2 i hlt)
                have HACS := Lib.hid (accOf_succ HAB.out (r := r) hlt)
                obtain ⟨X, hX⟩ : ∃ X, X = (if r = 0 then a else bb).getD i 0 := ⟨_, rfl⟩
                rw [← hX] at fr
                have HX := Lib.hid hX
                by_cases hin : 1 ≤ X ∧ X ≤ 2 * (a.length : Int)
                · obtain ⟨hx1, hx2⟩ := hin
                  obtain ⟨x, rfl⟩ : ∃ x : Nat, X = (x : Int) := ⟨X.toNat, by omega⟩
                  have hxl : x < (tkL acc (2 * a.length + 1)).length := by rw [tkL_len]; omega
                  have e1 := htk.cellAt x hxl
                  rw [tkL_get] at e1
                  have e2 := htk.frozenAt x
                  have hxs : (x : Int) < 2 * (a.length : Int) + 1 := by omega
                  by_cases hs : acc.contains (x : Int) = true
                  · rw [hs] at e1
                    have HC := Lib.hid (HNOT.out (fun h => h.2 (by rw [← HX.out, ← HAI.out]; simpa using hs)))
                    clear hs hX hcr
                    go_wp2_with (go_at_call 178; refine (within_yes _ _ _ _ (by omega) (by omega)).mono ?_; rintro e w' ⟨rfl, rfl⟩)
                    go_ret
                    exact ⟨ret_bool (by simp [HC.out]), hB⟩
                  · have hs' : acc.contains (x : Int) = false := by simpa using hs
                    rw [hs'] at e1
                    have HNM := Lib.hid (show (x : Int) ∉ acc by simpa using hs')
                    clear hs hs'
                    have HST : Hid (OwR 4 Value.bool (wr.setCell ⟨w.heap.size, x, none⟩ (.bool true)) w.heap.size (.slice (some ⟨w.heap.size, 0, none⟩) (2 * a.length + 1) (2 * a.length + 1)) (tkL (acc ++ [(x : Int)]) (2 * a.length + 1))) := by
                      show OwR _ _ _ _ _ _
                      rw [tkL_set]
                      exact (htk.stored x true).1
                    by_cases hz : i = 0
                    · have g1 : ¬ (0 : Int) < (i : Int) := by omega
                      have g2 : decide (0 < i) = false := by simp; omega
                      have HZ := Lib.hid hz
                      clear hz hX hcr
                      go_wp2_with (go_at_call 178; refine (within_yes _ _ _ _ (by omega) (by omega)).mono ?_; rintro e w' ⟨rfl, rfl⟩)
                      go_roundw
                      case rel =>
                        refine ⟨i + 1, acc ++ [(x : Int)], by omega, by go_num, Lib.hid (by rw [HACS.out, HAI.out, ← HX.out]), fun i' h => ?_, HST.out, hB.setCell (Nat.le_refl _) _⟩
                        obtain rfl : i' = i := by have := HZ.out; omega
                        exact ⟨⟨by rw [← HX.out]; exact hx1, by rw [← HX.out]; exact hx2, fun h => absurd h (by have := HZ.out; omega)⟩, by rw [← HX.out, ← HAI.out]; exact HNM.out⟩
                      case measure => simp [intOf]; omega
                    · obtain ⟨j, rfl⟩ : ∃ j, i = j + 1 := ⟨i - 1, by omega⟩
                      have g1 : (0 : Int) < (j : Int) + 1 := by omega
                      have g4 : IntKind.i64.wrap (j : Int) = (j : Int) := IntWalk.i64_in _ (by omega)
                      have g4' : (j : Int) + 1 - 1 = (j : Int) := by omega
                      have fp := (hB.cell (p := ⟨br, or + j, none⟩) hbr).trans (hcr j (by omega))
                      have g5 : (j : Int) < (a.length : Int) := by omega
                      obtain ⟨Y, hY⟩ : ∃ Y, Y = (if r = 0 then a else bb).getD j 0 := ⟨_, rfl⟩
                      rw [← hY] at fp
                      have HY := Lib.hid hY
                      clear hY hz hX hcr
                      by_cases hasc : (x : Int) ≤ Y
                      · have HC := Lib.hid (HNOT.out (fun h => by have := h.1.2.2 (by omega); rw [Nat.add_sub_cancel, ← HX.out, ← HY.out] at this; omega))
                        go_wp2_with (go_at_call 178; refine (within_yes _ _ _ _ (by omega) (by omega)).mono ?_; rintro e w' ⟨rfl, rfl⟩)
                        go_ret
                        exact ⟨ret_bool (by simp [HC.out]), hB⟩
                      · have HAS := Lib.hid hasc
                        go_wp2_with (go_at_call 178; refine (within_yes _ _ _ _ (by omega) (by omega)).mono ?_; rintro e w' ⟨rfl, rfl⟩)
                        go_roundw
                        case rel =>
                          refine ⟨j + 1 + 1, acc ++ [(x : Int)], by omega, by go_num, Lib.hid (by rw [HACS.out, HAI.out, ← HX.out]), fun i' h => ?_, HST.out, hB.setCell (Nat.le_refl _) _⟩
                          rcases Nat.lt_or_ge i' (j + 1) with h1 | h1
                          · exact HI.out i' h1
                          · obtain rfl : i' = j + 1 := by omega
                            exact ⟨⟨by rw [← HX.out]; exact hx1, by rw [← HX.out]; exact hx2, fun h => by rw [Nat.add_sub_cancel, ← HX.out, ← HY.out]; have := HAS.out; omega⟩, by rw [← HX.out, ← HAI.out]; exact HNM.out⟩
                        case measure => simp [intOf]; omega
                · have HC := Lib.hid (HNOT.out (fun h => hin (by rw [HX.out]; exact ⟨h.1.1, h.1.2.1⟩)))
                  clear hX hcr
                  go_wp2_with (go_at_call 178; refine (within_no _ _ _ _ hin).mono ?_; rintro e w' ⟨rfl, rfl⟩)
                  go_ret
                  exact ⟨ret_bool (by simp [HC.out]), hB⟩
              · have hie : i = a.length := by omega
                go_wp2_with fail
                go_roundw
                case rel =>
                  refine ⟨r + 1, acc, by omega, by go_num, fun h => ?_, fun r' h => ?_, htk, hB⟩
                  · obtain rfl : r = 0 := by omega
                    rw [HAI.out, hie, accOf_full]; exact (accOf_one a bb).symm
                  · rcases Nat.lt_or_ge r' r with h1 | h1
                    · exact HR.out r' h1
                    · obtain rfl : r' = r := by omega
                      exact fun i' hi' => HI.out i' (by omega)
                case measure => simp [intOf]; omega
          · have hre : r = 2 := by omega
            have hrt : ¬ (r : Int) < (t.length : Int) := by have := H2.out; omega
            subst hre
            clear htk
            go_wp2_with fail
            go_loopw [82] (fun x wr => ∃ i : Nat, i ≤ a.length ∧ x = .int .i64 i ∧ Hid (∀ i', i' < i → a.getD i' 0 < bb.getD i' 0) ∧ Below w.heap.size w wr) (fun x _ => a.length - (intOf x).toNat)
            case atStart => exact ⟨0, by omega, rfl, fun r' h => absurd h (by omega), hB⟩
            case round =>
              clear hB
              obtain ⟨i, hi, rfl, HI, hB⟩ := hrel
              by_cases hlt : i < a.length
              · obtain ⟨b0, o0, rfl, k0, hc0⟩ := r0.at_ (by omega)
                obtain ⟨b1, o1, rfl, k1, hc1⟩ := r1.at_ (by omega)
                have f0 := (hB.cell (p := ⟨b0, o0 + i, none⟩) k0).trans (hc0 i hlt)
                have f1 := (hB.cell (p := ⟨b1, o1 + i, none⟩) k1).trans (hc1 i (by omega))
                have d0 := (hB.cell (p := ⟨b, o, none⟩) hb).trans d0
                have d1 := (hB.cell (p := ⟨b, o + 1, none⟩) hb).trans d1
                have hltib : (i : Int) < (bb.length : Int) := by omega
                clear hc0 hc1
                by_cases hle : bb[i] ≤ a[i]
                · have HC := Lib.hid (show ¬ TabP t from fun ht => by
                    have := (HT.out.1 ht).2 i hlt
                    rw [getD_of hlt, getD_of (by omega)] at this; omega)
                  have hd : decide (bb[i] ≤ a[i]) = true := by simpa using hle
                  go_wp2_with fail
                  go_quiet (fail)
                  go_wp2_with fail
                  go_ret
                  exact ⟨ret_bool (by simp [HC.out]), below_drewN hB _⟩
                · have HL := Lib.hid hle
                  have hd : decide (bb[i] ≤ a[i]) = false := by simpa using hle
                  go_wp2_with fail
                  go_quiet (fail)
                  go_wp2_with fail
                  go_roundw
                  case rel =>
                    refine ⟨i + 1, by omega, by go_num, fun i' h => ?_, below_drewN hB _⟩
                    rcases Nat.lt_or_ge i' i with h1 | h1
                    · exact HI.out i' h1
                    · obtain rfl : i' = i := by omega
                      rw [getD_of hlt, getD_of (by omega)]; have := HL.out; omega
                  case measure => simp [intOf]; omega
              · have HF : Hid (TabP t) := HT.out.2 ⟨fun r' h => HR.out r' (by omega), fun i' h => HI.out i' (by omega)⟩
                go_wp2_with fail
                go_ret
                exact ⟨ret_bool (by simp [HF.out]), hB⟩
      · have HF : Hid (¬ TabP t) := fun h => h8 (by rw [← HA.out]; exact h.2.2.1)
        have h8' : (8 : Int) < (a.length : Int) := by omega
        go_enter Try.func25, Try.ntmps25
        go_wp2_with fail
        go_quiet (fail)
        go_wp2_with fail
        go_ret
        exact ⟨ret_bool (by simp [HF.out]), below_draws _ _⟩
    · have HF : Hid (¬ TabP t) := fun h => hab (by rw [← HA.out, ← HBB.out]; exact h.2.1)
      have hneab : ((a.length : Int) != (bb.length : Int)) = true := by simp; omega
      go_enter Try.func25, Try.ntmps25
      go_wp2_with fail
      go_quiet (fail)
      go_wp2_with fail
      go_ret
      exact ⟨ret_bool (by simp [HF.out]), below_draws _ _⟩
  · have HF : Hid (¬ TabP t) := fun h => h2 h.1
    have hne2 : ((t.length : Int) != 2) = true := by simp; omega
    go_enter Try.func25, Try.ntmps25
    go_wp2_with fail
    go_quiet (fail)
    go_wp2_with fail
    go_ret
    exact ⟨ret_bool (by simp [HF.out]), below_draws _ _⟩
end Go.Proofs.Ytnkkgfeegaiakaa
