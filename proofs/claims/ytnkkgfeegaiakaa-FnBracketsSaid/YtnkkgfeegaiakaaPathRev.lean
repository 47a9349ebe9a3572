/- Contracts of ReversePath, the program's and the reference's: both return the same text and bool. No condition but the word's size. -/
import Derived.Test.YtnkkgfeegaiakaaPath
import Derived.Test.YtnkkgfeegaiakaaPlain20
import Derived.Test.YtnkkgfeegaiakaaGround
namespace Go.Proofs.Ytnkkgfeegaiakaa
open Go.RowKit
set_option maxHeartbeats 1000000 in
theorem specReversePath_any (s : ByteArray) (w : World) (hs : s.size ≤ 1099511627776) :
    Calls Try.prog 181 #[.string s] w (RetSB w (rvR (L s))) := by
  by_cases hp : DyckP (L s)
  · have hl16 := hp.1
    rw [L_len] at hl16
    have HV := Lib.hid (show rvR (L s) = (revT (L s) 0, true) by unfold rvR; rw [if_pos hp, revT_zero])
    have HI : Hid (∀ wq, Calls Try.prog 183 #[.string s] wq fun e w' => e = .returned (.bool true) ∧ wq = w') := fun wq => (specIsDyck_any s wq hs).mono fun e w' h => ⟨by rw [h.1]; simp [hp], h.2⟩
    have HF := Lib.hid (show revT (L s) s.size = [] by rw [← L_len]; exact revT_full _)
    clear hp
    go_enter Try.func181, Try.ntmps181
    go_wp2_with fail
    go_loop [4, 5] (fun x i => ∃ m : Nat, m ≤ s.size ∧ i = .int .i64 ((m : Int) - 1) ∧ x = .string (S (revT (L s) m))) (fun _ i => (intOf i + 1).toNat)
    case atStart => exact ⟨s.size, by omega, rfl, by rw [HF.out]; rfl⟩
    case round =>
      obtain ⟨m, hm, rfl, rfl⟩ := hrel
      rcases m with _ | n
      · have f1 : ¬ (0 : Int) ≤ ((0 : Nat) : Int) - 1 := by omega
        go_wp2_with (go_at_call 183; refine (HI.out _).mono ?_; rintro e w' ⟨rfl, rfl⟩)
        go_ret2
        exact RetSB.mk HV.out rfl (Below.refl _ _)
      · have hlt : n < s.size := by omega
        have HS := Lib.hid (revT_pred (l := L s) (m := n) (by rw [L_len]; exact hlt))
        have hsz : (S (revT (L s) (n + 1))).size ≤ 16 := by rw [S_size, revT_len, L_len]; omega
        rw [show (((n + 1 : Nat) : Int) - 1) = (n : Int) by omega]
        have HR := Lib.hid (show ((n : Int) - 1) = (n : Int) - 1 from rfl)
        have hn0 : (0 : Int) ≤ (n : Int) := by omega
        by_cases hu : s[n].toNat = 117
        · have f1 : (((s[n].toNat : Nat) : Int) == 117) = true := by simp; omega
          have HC := Lib.hid (show S (revT (L s) (n + 1)) ++ ⟨#[100]⟩ = S (revT (L s) n) by rw [S_snoc, HS.out]; congr 2; unfold flipC; rw [L_get s n hlt, if_pos hu])
          clear hu
          go_wp2_with (go_at_call 183; refine (HI.out _).mono ?_; rintro e w' ⟨rfl, rfl⟩)
          go_round
          case rel => exact ⟨n, by omega, rfl, by rw [HC.out]⟩
          case measure => simp [intOf]
        · have f1 : (((s[n].toNat : Nat) : Int) == 117) = false := by simp; omega
          have HC := Lib.hid (show S (revT (L s) (n + 1)) ++ ⟨#[117]⟩ = S (revT (L s) n) by rw [S_snoc, HS.out]; congr 2; unfold flipC; rw [L_get s n hlt, if_neg hu])
          clear hu
          go_wp2_with (go_at_call 183; refine (HI.out _).mono ?_; rintro e w' ⟨rfl, rfl⟩)
          go_round
          case rel => exact ⟨n, by omega, rfl, by rw [HC.out]⟩
          case measure => simp [intOf]
  · have HV := Lib.hid (show rvR (L s) = ([], false) by unfold rvR; rw [if_neg hp])
    have HI : Hid (∀ wq, Calls Try.prog 183 #[.string s] wq fun e w' => e = .returned (.bool false) ∧ wq = w') := fun wq => (specIsDyck_any s wq hs).mono fun e w' h => ⟨by rw [h.1]; simp [hp], h.2⟩
    clear hp
    go_enter Try.func181, Try.ntmps181
    go_wp2_with fail
    by_cases h0 : (0 : Int) ≤ (s.size : Int) - 1
    all_goals (
      refine wp_loop_rounds 1 ?_
      rw [rounds_succ]
      go_wp2_with (go_at_call 183; refine (HI.out _).mono ?_; rintro e w' ⟨rfl, rfl⟩)
      go_ret2
      exact RetSB.mk HV.out rfl (Below.refl _ _))
set_option maxHeartbeats 1000000 in
theorem implReversePath_any (s : ByteArray) (w : World) :
    Calls Try.prog 180 #[.string s] w (RetSB w (rvR (L s))) := by
  have HP0 := implIsDyck_any s w
  by_cases hp : DyckP (L s)
  · have hl16 := hp.1
    rw [L_len] at hl16
    simp only [decide_eq_true hp] at HP0
    have HV := Lib.hid (show rvR (L s) = (revT (L s) 0, true) by unfold rvR; rw [if_pos hp, revT_zero])
    have HF := Lib.hid (show revT (L s) s.size = [] by rw [← L_len]; exact revT_full _)
    clear hp
    go_enter Try.func180, Try.ntmps180
    go_wp2_with fail
    refine HP0.mono ?_; rintro e w1 ⟨rfl, b1⟩
    have own0 := OwR.emptyB w1 w.heap.size b1.size
    have hB0 : Below w.heap.size w (w1.alloc (.cells #[] 5)) := b1.alloc b1.size _
    go_wp2_with fail
    generalize w1.alloc (.cells #[] 5) = w2 at own0 hB0 ⊢
    go_loopw [4, 5] (fun x i wr => ∃ m : Nat, m ≤ s.size ∧ i = .int .i64 ((m : Int) - 1) ∧ OwR 5 bf wr w.heap.size x (revT (L s) m) ∧ Below w.heap.size w wr) (fun _ i _ => (intOf i + 1).toNat)
    case atStart => exact ⟨s.size, by omega, rfl, by rw [HF.out]; exact own0, hB0⟩
    case round =>
      clear own0 hB0
      obtain ⟨m, hm, rfl, hx, hB⟩ := hrel
      have hsz := hB.size
      rcases m with _ | n
      · have f1 : ¬ (0 : Int) ≤ ((0 : Nat) : Int) - 1 := by omega
        have kc := conv_row hx
        go_wp2_with fail
        go_ret2
        exact RetSB.mk HV.out rfl hB
      · have hlt : n < s.size := by omega
        have HS := Lib.hid (revT_pred (l := L s) (m := n) (by rw [L_len]; exact hlt))
        have hlen : (revT (L s) (n + 1)).length < 1099511627776 := by rw [revT_len, L_len]; omega
        rw [show (((n + 1 : Nat) : Int) - 1) = (n : Int) by omega]
        have hn0 : (0 : Int) ≤ (n : Int) := by omega
        by_cases hu : s[n].toNat = 117
        · have f1 : (((s[n].toNat : Nat) : Int) == 117) = true := by simp; omega
          have HC := Lib.hid (show revT (L s) n = revT (L s) (n + 1) ++ [100] by rw [HS.out]; congr 2; unfold flipC; rw [L_get s n hlt, if_pos hu])
          clear hu
          go_wp2_with (at_builtin; refine wpList_appB _ rfl _ _ rfl w.heap.size _ _ rfl hx 100 _ rfl rfl rfl hlen hsz ?_)
          intro v' w3 hx3 hg3 hat3
          have hB3 := below_of_own hB hg3 hsz (fun g hg => (hx.lt g hg).1)
          clear hx hg3 hat3
          go_wp2_with fail
          go_roundw
          case rel => exact ⟨n, by omega, rfl, by rw [HC.out]; exact hx3, hB3⟩
          case measure => simp [intOf]
        · have f1 : (((s[n].toNat : Nat) : Int) == 117) = false := by simp; omega
          have HC := Lib.hid (show revT (L s) n = revT (L s) (n + 1) ++ [117] by rw [HS.out]; congr 2; unfold flipC; rw [L_get s n hlt, if_neg hu])
          clear hu
          go_wp2_with (at_builtin; refine wpList_appB _ rfl _ _ rfl w.heap.size _ _ rfl hx 117 _ rfl rfl rfl hlen hsz ?_)
          intro v' w3 hx3 hg3 hat3
          have hB3 := below_of_own hB hg3 hsz (fun g hg => (hx.lt g hg).1)
          clear hx hg3 hat3
          go_wp2_with fail
          go_roundw
          case rel => exact ⟨n, by omega, rfl, by rw [HC.out]; exact hx3, hB3⟩
          case measure => simp [intOf]
  · simp only [decide_eq_false hp] at HP0
    have HV := Lib.hid (show rvR (L s) = ([], false) by unfold rvR; rw [if_neg hp])
    clear hp
    go_enter Try.func180, Try.ntmps180
    go_wp2_with fail
    refine HP0.mono ?_; rintro e w1 ⟨rfl, b1⟩
    go_wp2_with fail
    go_ret2
    exact RetSB.mk HV.out rfl b1
end Go.Proofs.Ytnkkgfeegaiakaa
