/- Contracts of ParkingsOver, the program's and the reference's, and of what they call. No condition but the word's size. -/
import Derived.Test.YtnkkgfeegaiakaaPath
import Derived.Test.YtnkkgfeegaiakaaGround
namespace Go.Proofs.Ytnkkgfeegaiakaa
open Go.RowKit
theorem l3Binomial_any (n k : Nat) (w : World) (hk : k ≤ n) (hn : n ≤ 6) :
    Calls Try.prog 220 #[.int .i64 (n : Int), .int .i64 (k : Int)] w fun e w' => e = .returned (.int .i64 ((ch n k : Nat) : Int)) ∧ w = w' := by
  go_enter Try.func220, Try.ntmps220
  go_wp2_with fail
  go_loop [5, 6] (fun x i => ∃ j t : Nat, j ≤ k ∧ i = .int .i64 j ∧ x = .int .i64 t ∧ Hid (ch n j = t)) (fun _ i => k - (intOf i).toNat)
  case atStart => exact ⟨0, 1, by omega, rfl, rfl, by show _ = _; cases n <;> rfl⟩
  case round =>
    obtain ⟨j, t, hj, rfl, rfl, HT⟩ := hrel
    by_cases hlt : j < k
    · have hb := ch_mul_le n (by omega) j (by omega) (n - j) (by omega)
      have hst := ch_step n (by omega) j (by omega)
      rw [HT.out] at hb hst
      have hp : (t : Int) * ((n : Int) - (j : Int)) = ((t * (n - j) : Nat) : Int) := by rw [Int.natCast_mul, Int.natCast_sub (by omega)]
      generalize t * (n - j) = p at hb hst hp
      have hq : (p : Int) / ((j : Int) + 1) = ((p / (j + 1) : Nat) : Int) := by simp
      rw [hst] at hq
      have hb0 : 0 ≤ (t : Int) * ((n : Int) - (j : Int)) := by rw [hp]; omega
      have hb1 : (t : Int) * ((n : Int) - (j : Int)) ≤ 1000 := by rw [hp]; omega
      have HP := Lib.hid hp
      have HQ := Lib.hid hq
      clear hp hq hst
      go_wp2_with fail
      go_round
      case rel => exact ⟨j + 1, ch n (j + 1), by omega, by go_num, by rw [HP.out, HQ.out], rfl⟩
      case measure => simp [intOf]; omega
    · have hje : j = k := by omega
      go_wp2_with fail
      go_ret
      exact ⟨ret_int (by rw [← HT.out, hje]), rfl⟩
theorem choose_any (n k : Nat) (w : World) (hk : k ≤ n) (hn : n ≤ 6) :
    Calls Try.prog 218 #[.int .i64 (n : Int), .int .i64 (k : Int)] w fun e w' => e = .returned (.int .i64 ((ch n k : Nat) : Int)) ∧ w = w' := by
  have hk0 : ¬ (k : Int) < 0 := by omega
  have hkn : ¬ (n : Int) < (k : Int) := by omega
  obtain ⟨m, hm⟩ : ∃ m, n = m + k := ⟨n - k, by omega⟩
  have hnm : (n : Int) - (k : Int) = (m : Int) := by omega
  have hmn : m ≤ n := by omega
  have HM := Lib.hid hm
  clear hm
  go_enter Try.func218, Try.ntmps218
  go_wp2_with fail
  go_loop [5, 6] (fun x i => ∃ j t : Nat, j ≤ k ∧ i = .int .i64 ((j : Int) + 1) ∧ x = .int .i64 t ∧ Hid (ch (m + j) j = t)) (fun _ i => k + 1 - (intOf i).toNat)
  case atStart => exact ⟨0, 1, by omega, rfl, rfl, by show _ = _; cases m <;> rfl⟩
  case round =>
    obtain ⟨j, t, hj, rfl, rfl, HT⟩ := hrel
    by_cases hlt : j < k
    · have hmj : m + j < 6 := by have := HM.out; omega
      have hlt' : (j : Int) + 1 ≤ (k : Int) := by omega
      have hb := ch_mul_le (m + j) (by omega) j (by omega) (m + (j + 1)) (by omega)
      have hst := ch_step2 m (by omega) j (by omega) hmj
      rw [HT.out] at hb hst
      have hp : (t : Int) * ((m : Int) + ((j : Int) + 1)) = ((t * (m + (j + 1)) : Nat) : Int) := by simp
      generalize t * (m + (j + 1)) = p at hb hst hp
      have hq : (p : Int) / ((j : Int) + 1) = ((p / (j + 1) : Nat) : Int) := by simp
      rw [hst] at hq
      have hb0 : 0 ≤ (t : Int) * ((m : Int) + ((j : Int) + 1)) := by rw [hp]; omega
      have hb1 : (t : Int) * ((m : Int) + ((j : Int) + 1)) ≤ 1000 := by rw [hp]; omega
      have HP := Lib.hid hp
      have HQ := Lib.hid hq
      clear hp hq hst
      go_wp2_with fail
      go_round
      case rel => exact ⟨j + 1, ch (m + (j + 1)) (j + 1), by omega, by go_num, by rw [HP.out, HQ.out], rfl⟩
      case measure => simp [intOf]; omega
    · have hje : j = k := by omega
      have hlt' : ¬ (j : Int) + 1 ≤ (k : Int) := by omega
      go_wp2_with fail
      go_ret
      exact ⟨ret_int (by rw [← HT.out, hje, HM.out]), rfl⟩
theorem implSizeOf_any (s : ByteArray) (w : World) (hs : s.size ≤ 1099511627776) :
    Calls Try.prog 217 #[.string s] w fun e w' => e = .returned (.int .i64 (if DyckP (L s) then ((s.size / 2 : Nat) : Int) else -1)) ∧ Below w.heap.size w w' := by
  by_cases hp : DyckP (L s)
  · rw [if_pos hp]
    go_enter Try.func217, Try.ntmps217
    go_wp2_with fail
    refine (implIsDyck_any s _).mono ?_; rintro e w1 ⟨rfl, b1⟩
    go_wp2_with fail
    go_ret
    exact ⟨ret_int (by simp), b1⟩
  · rw [if_neg hp]
    go_enter Try.func217, Try.ntmps217
    go_wp2_with fail
    refine (implIsDyck_any s _).mono ?_; rintro e w1 ⟨rfl, b1⟩
    go_wp2_with fail
    go_ret
    exact ⟨rfl, b1⟩
set_option maxHeartbeats 1000000 in
theorem specParkingsOver_any (s : ByteArray) (w : World) (hs : s.size ≤ 1099511627776) :
    Calls Try.prog 141 #[.string s] w fun e w' => e = .returned (.int .i64 (pkV (L s))) ∧ Below w.heap.size w w' := by
  by_cases hp : DyckP (L s)
  · have hl16 := hp.1
    rw [L_len] at hl16
    by_cases h6 : s.size / 2 ≤ 6
    · have HV := Lib.hid (show pkV (L s) = ((pkS (L s) s.size).1 : Nat) by unfold pkV; rw [L_len, if_pos ⟨hp, h6⟩])
      have h6' : (s.size : Int) / 2 ≤ 6 := by omega
      go_enter Try.func141, Try.ntmps141
      go_wp2_with fail
      refine (specIsDyck_any s _ hs).mono ?_; rintro e w' ⟨rfl, rfl⟩
      go_wp2_with fail
      have B1 : Below w.heap.size w w := Below.refl _ _
      go_loop [3, 4, 5, 6] (fun x lf r i => ∃ k xx ll rr : Nat, k ≤ s.size ∧ i = .int .i64 k ∧ x = .int .i64 xx ∧ lf = .int .i64 ll ∧ r = .int .i64 rr ∧ Hid (PkInv (L s) k xx ll rr)) (fun _ _ _ i => s.size - (intOf i).toNat)
      case atStart => exact ⟨0, 1, s.size / 2, 0, by omega, rfl, rfl, by go_num, rfl, by have := PkInv.start (L s); rw [L_len] at this; exact this⟩
      case round =>
        obtain ⟨k, xx, ll, rr, hk, rfl, rfl, rfl, rfl, HI⟩ := hrel
        have hrl := HI.out.run_le hp
        rw [L_len] at hrl
        have hr1 := hrl.1
        have hr2 := hrl.2
        clear hrl
        by_cases hlt : k < s.size
        · have hbx := HI.out.bound (by omega)
          by_cases hu : s[k].toNat = 117
          · have f1 : (((s[k].toNat : Nat) : Int) == 117) = true := by simp; omega
            have HF := Lib.hid (HI.out.up (by rw [L_len]; exact hlt) (by rw [L_get s k hlt]; exact hu))
            clear hu
            go_wp2_with fail
            go_round
            case rel => exact ⟨k + 1, xx, ll, rr + 1, by omega, by go_num, rfl, rfl, by go_num, HF.out⟩
            case measure => simp [intOf]; omega
          · have f1 : (((s[k].toNat : Nat) : Int) == 117) = false := by simp; omega
            have HF := Lib.hid (HI.out.down (by rw [L_len]; exact hlt) (by rw [L_get s k hlt]; exact hu) hp (by rw [L_len]; exact h6))
            have hc := ch_le ll (by omega) rr (by omega)
            have hm : xx * ch ll rr ≤ 4096000000000000 * 20 := Nat.mul_le_mul hbx hc
            have hmi : (xx : Int) * ((ch ll rr : Nat) : Int) = ((xx * ch ll rr : Nat) : Int) := by simp
            have hm0 : 0 ≤ (xx : Int) * ((ch ll rr : Nat) : Int) := by rw [hmi]; omega
            have hm1 : (xx : Int) * ((ch ll rr : Nat) : Int) ≤ 81920000000000000 := by rw [hmi]; omega
            have HMI := Lib.hid hmi
            clear hu hmi hm
            go_wp2_with (go_at_call 220; refine (l3Binomial_any _ _ _ hr1 (by omega)).mono ?_; rintro e w' ⟨rfl, rfl⟩)
            go_round
            case rel => exact ⟨k + 1, xx * ch ll rr, ll - rr, 0, by omega, by go_num, by rw [HMI.out], by go_num, rfl, HF.out⟩
            case measure => simp [intOf]; omega
        · have hke : k = s.size := by omega
          have HE := Lib.hid (show pkV (L s) = ((xx : Nat) : Int) by rw [HV.out, ← hke, HI.out.1])
          go_wp2_with fail
          go_ret
          exact ⟨ret_int (by rw [HE.out]), B1⟩
    · have HV := Lib.hid (show pkV (L s) = -1 by unfold pkV; rw [L_len, if_neg (fun h => h6 h.2)])
      have h6' : 6 < (s.size : Int) / 2 := by omega
      go_enter Try.func141, Try.ntmps141
      go_wp2_with fail
      refine (specIsDyck_any s _ hs).mono ?_; rintro e w' ⟨rfl, rfl⟩
      go_wp2_with fail
      go_ret
      exact ⟨ret_int (by rw [HV.out]), Below.refl _ _⟩
  · have HV := Lib.hid (show pkV (L s) = -1 by unfold pkV; rw [if_neg (fun h => hp h.1)])
    go_enter Try.func141, Try.ntmps141
    go_wp2_with fail
    refine (specIsDyck_any s _ hs).mono ?_; rintro e w' ⟨rfl, rfl⟩
    go_wp2_with fail
    go_ret
    exact ⟨ret_int (by rw [HV.out]), Below.refl _ _⟩
set_option maxHeartbeats 1000000 in
theorem implParkingsOver_any (s : ByteArray) (w : World) (hs : s.size ≤ 1099511627776) :
    Calls Try.prog 134 #[.string s] w fun e w' => e = .returned (.int .i64 (pkV (L s))) ∧ Below w.heap.size w w' := by
  by_cases hp : DyckP (L s)
  · have hl16 := hp.1
    rw [L_len] at hl16
    by_cases h6 : s.size / 2 ≤ 6
    · have HV := Lib.hid (show pkV (L s) = ((pkS (L s) s.size).1 : Nat) by unfold pkV; rw [L_len, if_pos ⟨hp, h6⟩])
      have h6' : (s.size : Int) / 2 ≤ 6 := by omega
      go_enter Try.func134, Try.ntmps134
      go_wp2_with fail
      refine (implIsDyck_any s _).mono ?_; rintro e w1 ⟨rfl, b1⟩
      go_wp2_with fail
      refine (implSizeOf_any s _ hs).mono ?_; rintro e w2 ⟨rfl, b2⟩
      have B2 := below_then b1 b2
      rw [if_pos hp]
      go_wp2_with fail
      refine (implSizeOf_any s _ hs).mono ?_; rintro e w3 ⟨rfl, b3⟩
      have B1 := below_then B2 b3
      rw [if_pos hp]
      clear b1 b2 b3 B2
      go_wp2_with fail
      go_loop [3, 4, 5, 6] (fun lf x r i => ∃ k xx ll rr : Nat, k ≤ s.size ∧ i = .int .i64 k ∧ x = .int .i64 xx ∧ lf = .int .i64 ll ∧ r = .int .i64 rr ∧ Hid (PkInv (L s) k xx ll rr)) (fun _ _ _ i => s.size - (intOf i).toNat)
      case atStart => exact ⟨0, 1, s.size / 2, 0, by omega, rfl, rfl, by go_num, rfl, by have := PkInv.start (L s); rw [L_len] at this; exact this⟩
      case round =>
        obtain ⟨k, xx, ll, rr, hk, rfl, rfl, rfl, rfl, HI⟩ := hrel
        have hrl := HI.out.run_le hp
        rw [L_len] at hrl
        have hr1 := hrl.1
        have hr2 := hrl.2
        clear hrl
        by_cases hlt : k < s.size
        · have hbx := HI.out.bound (by omega)
          by_cases hu : s[k].toNat = 117
          · have f1 : (((s[k].toNat : Nat) : Int) == 117) = true := by simp; omega
            have HF := Lib.hid (HI.out.up (by rw [L_len]; exact hlt) (by rw [L_get s k hlt]; exact hu))
            clear hu
            go_wp2_with fail
            go_round
            case rel => exact ⟨k + 1, xx, ll, rr + 1, by omega, by go_num, rfl, rfl, by go_num, HF.out⟩
            case measure => simp [intOf]; omega
          · have f1 : (((s[k].toNat : Nat) : Int) == 117) = false := by simp; omega
            have HF := Lib.hid (HI.out.down (by rw [L_len]; exact hlt) (by rw [L_get s k hlt]; exact hu) hp (by rw [L_len]; exact h6))
            have hc := ch_le ll (by omega) rr (by omega)
            have hm : xx * ch ll rr ≤ 4096000000000000 * 20 := Nat.mul_le_mul hbx hc
            have hmi : (xx : Int) * ((ch ll rr : Nat) : Int) = ((xx * ch ll rr : Nat) : Int) := by simp
            have hm0 : 0 ≤ (xx : Int) * ((ch ll rr : Nat) : Int) := by rw [hmi]; omega
            have hm1 : (xx : Int) * ((ch ll rr : Nat) : Int) ≤ 81920000000000000 := by rw [hmi]; omega
            have HMI := Lib.hid hmi
            clear hu hmi hm
            go_wp2_with (go_at_call 218; refine (choose_any _ _ _ hr1 (by omega)).mono ?_; rintro e w' ⟨rfl, rfl⟩)
            go_round
            case rel => exact ⟨k + 1, xx * ch ll rr, ll - rr, 0, by omega, by go_num, by rw [HMI.out], by go_num, rfl, HF.out⟩
            case measure => simp [intOf]; omega
        · have hke : k = s.size := by omega
          have HE := Lib.hid (show pkV (L s) = ((xx : Nat) : Int) by rw [HV.out, ← hke, HI.out.1])
          go_wp2_with fail
          go_ret
          exact ⟨ret_int (by rw [HE.out]), B1⟩
    · have HV := Lib.hid (show pkV (L s) = -1 by unfold pkV; rw [L_len, if_neg (fun h => h6 h.2)])
      have h6' : 6 < (s.size : Int) / 2 := by omega
      go_enter Try.func134, Try.ntmps134
      go_wp2_with fail
      refine (implIsDyck_any s _).mono ?_; rintro e w1 ⟨rfl, b1⟩
      go_wp2_with fail
      refine (implSizeOf_any s _ hs).mono ?_; rintro e w2 ⟨rfl, b2⟩
      rw [if_pos hp]
      go_wp2_with fail
      go_ret
      exact ⟨ret_int (by rw [HV.out]), below_then b1 b2⟩
  · have HV := Lib.hid (show pkV (L s) = -1 by unfold pkV; rw [if_neg (fun h => hp h.1)])
    go_enter Try.func134, Try.ntmps134
    go_wp2_with fail
    refine (implIsDyck_any s _).mono ?_; rintro e w1 ⟨rfl, b1⟩
    go_wp2_with fail
    go_ret
    exact ⟨ret_int (by rw [HV.out]), b1⟩
end Go.Proofs.Ytnkkgfeegaiakaa
