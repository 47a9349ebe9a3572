/- Contracts of MajorOf, the program's and the reference's: both return the sum of the places of the valleys. No condition but the word's size. -/
import Derived.Test.YtnkkgfeegaiakaaPath
import Derived.Test.YtnkkgfeegaiakaaPlain4
namespace Go.Proofs.Ytnkkgfeegaiakaa
open Go.RowKit
theorem specMajorOf_any (s : ByteArray) (w : World) (hs : s.size ≤ 1099511627776) :
    Calls Try.prog 42 #[.string s] w fun e w' => e = .returned (.int .i64 (majV (L s))) ∧ w = w' := by
  by_cases hp : DyckP (L s)
  · have hl16 := hp.1
    rw [L_len] at hl16
    have HV := Lib.hid (show majV (L s) = (sumTo s.size (majG (L s)) : Nat) by unfold majV; rw [if_pos hp, L_len])
    go_enter Try.func42, Try.ntmps42
    go_wp2_with fail
    refine (specIsDyck_any s _ hs).mono ?_; rintro e w' ⟨rfl, rfl⟩
    go_wp2_with fail
    go_loop [3, 4] (fun n i => ∃ k t : Nat, (k + 1 ≤ s.size ∨ k = 0) ∧ i = .int .i64 ((k : Int) + 1) ∧ n = .int .i64 t ∧ t ≤ k * 16 ∧ Hid (sumTo (k + 1) (majG (L s)) = t)) (fun _ i => s.size + 1 - (intOf i).toNat)
    case atStart => exact ⟨0, 0, .inr rfl, rfl, rfl, by omega, majG_start _⟩
    case round =>
      obtain ⟨k, t, hk, rfl, rfl, ht, HT⟩ := hrel
      by_cases hlt : k + 1 < s.size
      · have hlt' : (k : Int) + 1 < (s.size : Int) := by omega
        have hk1 : k < s.size := by omega
        by_cases hd : s[k].toNat = 100
        · have f1 : (((s[k].toNat : Nat) : Int) == 100) = true := by simp; omega
          by_cases hu : s[k + 1].toNat = 117
          · have f2 : (((s[k + 1].toNat : Nat) : Int) == 117) = true := by simp; omega
            have HF := Lib.hid (majG_hit hlt hd hu)
            clear hd hu
            go_wp2_with fail
            go_round
            case rel => exact ⟨k + 1, t + (k + 1), by omega, by go_num, by go_num, by omega, by show sumTo (k + 1 + 1) _ = _; rw [sumTo_succ, HT.out, HF.out]⟩
            case measure => simp [intOf]; omega
          · have f2 : (((s[k + 1].toNat : Nat) : Int) == 117) = false := by simp; omega
            have HF := Lib.hid (majG_miss hlt (fun h => hu h.2))
            clear hd hu
            go_wp2_with fail
            go_round
            case rel => exact ⟨k + 1, t, by omega, by go_num, rfl, by omega, by show sumTo (k + 1 + 1) _ = _; rw [sumTo_succ, HT.out, HF.out]; rfl⟩
            case measure => simp [intOf]; omega
        · have f1 : (((s[k].toNat : Nat) : Int) == 100) = false := by simp; omega
          have HF := Lib.hid (majG_miss hlt (fun h => hd h.1))
          clear hd
          go_wp2_with fail
          go_round
          case rel => exact ⟨k + 1, t, by omega, by go_num, rfl, by omega, by show sumTo (k + 1 + 1) _ = _; rw [sumTo_succ, HT.out, HF.out]; rfl⟩
          case measure => simp [intOf]; omega
      · have hlt' : ¬ (k : Int) + 1 < (s.size : Int) := by omega
        go_wp2_with fail
        go_ret
        refine ⟨ret_int ?_, rfl⟩
        rw [HV.out, ← HT.out]
        rcases Nat.lt_or_ge 0 s.size with h | h
        · rw [show s.size = k + 1 from by omega]
        · rw [show s.size = 0 from by omega, show k = 0 from by omega, majG_start]; rfl
  · have HV := Lib.hid (show majV (L s) = -1 by unfold majV; rw [if_neg hp])
    go_enter Try.func42, Try.ntmps42
    go_wp2_with fail
    refine (specIsDyck_any s _ hs).mono ?_; rintro e w' ⟨rfl, rfl⟩
    go_wp2_with fail
    go_ret
    exact ⟨ret_int (by rw [HV.out]), rfl⟩
theorem implMajorOf_any (s : ByteArray) (w : World) (hs : s.size ≤ 1099511627776) :
    Calls Try.prog 41 #[.string s] w fun e w' => e = .returned (.int .i64 (majV (L s))) ∧ Below w.heap.size w w' := by
  by_cases hp : DyckP (L s)
  · have hl16 := hp.1
    rw [L_len] at hl16
    have HV := Lib.hid (show majV (L s) = (sumTo s.size (majG (L s)) : Nat) by unfold majV; rw [if_pos hp, L_len])
    go_enter Try.func41, Try.ntmps41
    go_wp2_with fail
    refine (implIsDyck_any s _).mono ?_; rintro e w1 ⟨rfl, b1⟩
    go_wp2_with fail
    go_loop [3, 4] (fun n i => ∃ k t : Nat, (k + 1 ≤ s.size ∨ k = 0) ∧ i = .int .i64 ((k : Int) + 1) ∧ n = .int .i64 t ∧ t ≤ k * 16 ∧ Hid (sumTo (k + 1) (majG (L s)) = t)) (fun _ i => s.size + 1 - (intOf i).toNat)
    case atStart => exact ⟨0, 0, .inr rfl, rfl, rfl, by omega, majG_start _⟩
    case round =>
      obtain ⟨k, t, hk, rfl, rfl, ht, HT⟩ := hrel
      by_cases hlt : k + 1 < s.size
      · have hlt' : (k : Int) + 1 < (s.size : Int) := by omega
        have hk1 : k < s.size := by omega
        by_cases hd : s[k].toNat = 100
        · have f1 : (((s[k].toNat : Nat) : Int) == 100) = true := by simp; omega
          by_cases hu : s[k + 1].toNat = 117
          · have f2 : (((s[k + 1].toNat : Nat) : Int) == 117) = true := by simp; omega
            have HF := Lib.hid (majG_hit hlt hd hu)
            clear hd hu
            go_wp2_with fail
            go_round
            case rel => exact ⟨k + 1, t + (k + 1), by omega, by go_num, by go_num, by omega, by show sumTo (k + 1 + 1) _ = _; rw [sumTo_succ, HT.out, HF.out]⟩
            case measure => simp [intOf]; omega
          · have f2 : (((s[k + 1].toNat : Nat) : Int) == 117) = false := by simp; omega
            have HF := Lib.hid (majG_miss hlt (fun h => hu h.2))
            clear hd hu
            go_wp2_with fail
            go_round
            case rel => exact ⟨k + 1, t, by omega, by go_num, rfl, by omega, by show sumTo (k + 1 + 1) _ = _; rw [sumTo_succ, HT.out, HF.out]; rfl⟩
            case measure => simp [intOf]; omega
        · have f1 : (((s[k].toNat : Nat) : Int) == 100) = false := by simp; omega
          have HF := Lib.hid (majG_miss hlt (fun h => hd h.1))
          clear hd
          go_wp2_with fail
          go_round
          case rel => exact ⟨k + 1, t, by omega, by go_num, rfl, by omega, by show sumTo (k + 1 + 1) _ = _; rw [sumTo_succ, HT.out, HF.out]; rfl⟩
          case measure => simp [intOf]; omega
      · have hlt' : ¬ (k : Int) + 1 < (s.size : Int) := by omega
        go_wp2_with fail
        go_ret
        refine ⟨ret_int ?_, b1⟩
        rw [HV.out, ← HT.out]
        rcases Nat.lt_or_ge 0 s.size with h | h
        · rw [show s.size = k + 1 from by omega]
        · rw [show s.size = 0 from by omega, show k = 0 from by omega, majG_start]; rfl
  · have HV := Lib.hid (show majV (L s) = -1 by unfold majV; rw [if_neg hp])
    go_enter Try.func41, Try.ntmps41
    go_wp2_with fail
    refine (implIsDyck_any s _).mono ?_; rintro e w1 ⟨rfl, b1⟩
    go_wp2_with fail
    go_ret
    exact ⟨ret_int (by rw [HV.out]), b1⟩
end Go.Proofs.Ytnkkgfeegaiakaa
