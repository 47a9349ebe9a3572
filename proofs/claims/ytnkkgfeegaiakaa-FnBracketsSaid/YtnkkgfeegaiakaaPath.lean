/- Contracts of IsDyck and heights: whether a word is a path, and the heights at its places. No condition but the word's size. -/
import Derived.Test.YtnkkgfeegaiakaaGround
namespace Go.Proofs.Ytnkkgfeegaiakaa
open Go.RowKit
theorem specIsDyck_any (s : ByteArray) (w : World) (hs : s.size ≤ 1099511627776) :
    Calls Try.prog 183 #[.string s] w fun e w' => e = .returned (.bool (decide (DyckP (L s)))) ∧ w = w' := by
  go_enter Try.func183, Try.ntmps183
  go_wp2_with fail
  go_loop [3, 4] (fun h i => ∃ k t : Nat, k ≤ s.size ∧ i = .int .i64 k ∧ h = .int .i64 t ∧ t ≤ k ∧ Hid (scan ((L s).take k) = some t)) (fun _ i => s.size - (intOf i).toNat)
  case atStart => exact ⟨0, 0, by omega, rfl, rfl, by omega, rfl⟩
  case round =>
    obtain ⟨k, t, hk, rfl, rfl, ht, HS⟩ := hrel
    by_cases hlt : k < s.size
    · by_cases hu : s[k].toNat = 117
      · have f1 : (((s[k].toNat : Nat) : Int) == 117) = true := by simp; omega
        have HU := Lib.hid hu
        clear hu
        go_wp2_with fail
        go_round
        case rel => exact ⟨k + 1, t + 1, by omega, by go_num, by go_num, by omega, scan_up hlt HS.out HU.out⟩
        case measure => simp [intOf]; omega
      · have f1 : (((s[k].toNat : Nat) : Int) == 117) = false := by simp; omega
        by_cases hd : s[k].toNat = 100
        · have f2 : (((s[k].toNat : Nat) : Int) == 100) = true := by simp; omega
          have HD := Lib.hid hd
          clear hd hu
          by_cases h0 : t = 0
          · have h00 : t ≤ 0 := by omega
            have H0 := Lib.hid h0
            clear h0
            go_wp2_with fail
            go_ret
            exact ⟨ret_bool (by simp [DyckP.not_of (scan_fall hlt (by rw [HS.out, H0.out]) HD.out)]), rfl⟩
          · go_wp2_with fail
            go_round
            case rel => exact ⟨k + 1, t - 1, by omega, by go_num, by go_num, by omega, scan_down hlt HS.out HD.out (by omega)⟩
            case measure => simp [intOf]; omega
        · have f2 : (((s[k].toNat : Nat) : Int) == 100) = false := by simp; omega
          have HU := Lib.hid hu
          have HD := Lib.hid hd
          clear hd hu
          go_wp2_with fail
          go_ret
          exact ⟨ret_bool (by simp [DyckP.not_of (scan_other hlt HS.out HU.out HD.out)]), rfl⟩
    · have H := Lib.hid (show DyckP (L s) ↔ (t = 0 ∧ s.size ≤ 16) from dyck_at_end (by omega) HS.out)
      by_cases h0 : t = 0
      · subst h0
        go_wp2_with fail
        go_ret
        exact ⟨ret_bool (by simp [H.out]; omega), rfl⟩
      · have f0 : ((t : Int) == 0) = false := by simp; omega
        go_wp2_with fail
        go_ret
        exact ⟨ret_bool (by simp [H.out, h0]), rfl⟩
set_option maxHeartbeats 1000000 in
theorem heights_any (s : ByteArray) (w : World) (hs : s.size ≤ 1048576) :
    Calls Try.prog 239 #[.string s] w fun e w' => ∃ r, e = .returned (.tuple #[r, .bool (decide (scan (L s) = some 0))]) ∧ (scan (L s) = some 0 → OwI w' w.heap.size r (hL (L s) s.size)) ∧ Below w.heap.size w w' := by
  go_enter Try.func239, Try.ntmps239
  go_wp2_with fail
  go_loopw [4, 5, 6] (fun v h i wr => ∃ k t : Nat, k ≤ s.size ∧ i = .int .i64 k ∧ h = .int .i64 t ∧ t ≤ k ∧ Hid (scan ((L s).take k) = some t) ∧ OwI wr w.heap.size v (hL (L s) k) ∧ Below w.heap.size w wr) (fun _ _ i _ => s.size - (intOf i).toNat)
  case atStart => exact ⟨0, 0, by omega, rfl, rfl, by omega, rfl, by rw [hL_zero]; exact OwI.one w 0 _ (Nat.le_refl _), (Below.refl _ _).alloc (Nat.le_refl _) _⟩
  case round =>
    obtain ⟨k, t, hk, rfl, rfl, ht, HS, hown, hB⟩ := hrel
    have hBs := hB.size
    by_cases hlt : k < s.size
    · by_cases hu : s[k].toNat = 117
      · have f1 : (((s[k].toNat : Nat) : Int) == 117) = true := by simp; omega
        have HU := Lib.hid hu
        clear hu
        go_wp2_with (at_builtin; refine wpList_appI _ rfl _ _ rfl w.heap.size _ _ rfl hown _ rfl rfl ?hl1 ?hb1 ?_)
        case hl1 => rw [hL_len]; omega
        case hb1 => exact hBs
        intro v' w1 hown1 hg1 hat1
        have R := hL_step_up (w := w) hlt HS.out HU.out hown1
        have hB1 := below_of_own hB hg1 hBs (fun g hg => (hown.lt g hg).1)
        clear hown1 hg1 hown hB
        go_wp2_with fail
        go_roundw
        case rel => exact ⟨k + 1, t + 1, by omega, by go_num, by go_num, by omega, R.1, R.2, hB1⟩
        case measure => simp [intOf]; omega
      · have f1 : (((s[k].toNat : Nat) : Int) == 117) = false := by simp; omega
        by_cases hd : s[k].toNat = 100
        · have f2 : (((s[k].toNat : Nat) : Int) == 100) = true := by simp; omega
          have HD := Lib.hid hd
          clear hd hu
          by_cases h0 : t = 0
          · have h00 : t ≤ 0 := by omega
            have H0 := Lib.hid h0
            clear h0
            go_wp2_with fail
            go_ret2
            have := scan_fall hlt (by rw [HS.out, H0.out]) HD.out
            exact ⟨.slice none 0 0, by simp [this], by simp [this], hB⟩
          · go_wp2_with (at_builtin; refine wpList_appI _ rfl _ _ rfl w.heap.size _ _ rfl hown _ rfl rfl ?hl2 ?hb2 ?_)
            case hl2 => rw [hL_len]; omega
            case hb2 => exact hBs
            intro v' w1 hown1 hg1 hat1
            have R := hL_step_down (w := w) hlt HS.out HD.out (by omega) hown1
            have hB1 := below_of_own hB hg1 hBs (fun g hg => (hown.lt g hg).1)
            clear hown1 hg1 hown hB
            go_wp2_with fail
            go_roundw
            case rel => exact ⟨k + 1, t - 1, by omega, by go_num, by go_num, by omega, R.1, R.2, hB1⟩
            case measure => simp [intOf]; omega
        · have f2 : (((s[k].toNat : Nat) : Int) == 100) = false := by simp; omega
          have HU := Lib.hid hu
          have HD := Lib.hid hd
          clear hd hu
          go_wp2_with fail
          go_ret2
          have := scan_other hlt HS.out HU.out HD.out
          exact ⟨.slice none 0 0, by simp [this], by simp [this], hB⟩
    · have H := Lib.hid (show scan (L s) = some t from scan_all (by omega) HS.out)
      have hke : k = s.size := by omega
      go_wp2_with fail
      go_ret2
      subst hke
      refine ⟨_, ?_, fun _ => hown, hB⟩
      rw [H.out]
      congr 4
      by_cases h0 : t = 0 <;> simp [h0]
theorem implIsDyck_any (s : ByteArray) (w : World) :
    Calls Try.prog 182 #[.string s] w fun e w' => e = .returned (.bool (decide (DyckP (L s)))) ∧ Below w.heap.size w w' := by
  by_cases h16 : s.size ≤ 16
  · have H := Lib.hid (show DyckP (L s) ↔ scan (L s) = some 0 from ⟨fun h => h.2, fun h => ⟨by rw [L_len]; exact h16, h⟩⟩)
    go_enter Try.func182, Try.ntmps182
    go_wp2_with fail
    refine (heights_any s _ (by omega)).mono ?_; rintro e w1 ⟨r, rfl, hr, b1⟩
    go_wp2_with fail
    go_ret
    exact ⟨ret_bool (by simp [H.out]), b1⟩
  · have H := Lib.hid (show ¬ DyckP (L s) from fun h => h16 (by have := h.1; rw [L_len] at this; exact this))
    go_enter Try.func182, Try.ntmps182
    go_wp2_with fail
    go_ret
    exact ⟨ret_bool (by simp [H.out]), Below.refl _ _⟩
end Go.Proofs.Ytnkkgfeegaiakaa
