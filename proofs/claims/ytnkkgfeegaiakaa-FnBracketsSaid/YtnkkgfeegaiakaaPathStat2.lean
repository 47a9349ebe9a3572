/- Contracts of ReturnsOf and AreaOf, the program's and the reference's. No condition but the word's size. -/
import Derived.Test.YtnkkgfeegaiakaaPathStat
namespace Go.Proofs.Ytnkkgfeegaiakaa
open Go.RowKit
theorem rtN_succ (l : List UInt8) (k : Nat) : rtN l (k + 1) = rtN l k + (rtF l k).toNat := cnt_succ _ _
theorem rtN_one (l : List UInt8) : rtN l 1 = 1 := by simp [rtN, cnt, sumTo, rtF, hN, scan]
theorem hoR_yes {l : List UInt8} (h : DyckP l) : hoR l = hL l l.length := if_pos h
theorem hL_at {l : List UInt8} {n i : Nat} (hi : i < (hL l n).length) : (hL l n)[i] = ((hN l i : Nat) : Int) := by simp [hL]
set_option maxHeartbeats 1000000 in
theorem specAreaOf_any (s : ByteArray) (w : World) (hs : s.size ≤ 1099511627776) :
    Calls Try.prog 194 #[.string s] w fun e w' => e = .returned (.int .i64 (areaV (L s))) ∧ Below w.heap.size w w' := by
  have HP0 := specHeightsOf_any s w hs
  by_cases hp : DyckP (L s)
  · have hl16 := hp.1
    rw [L_len] at hl16
    have HV := Lib.hid (show areaV (L s) = ((arN (L s) s.size : Nat) : Int) by unfold areaV; rw [if_pos hp, L_len])
    have HD := Lib.hid hp
    rw [hoR_yes hp, L_len] at HP0
    clear hp
    go_enter Try.func194, Try.ntmps194
    go_wp2_with fail
    refine HP0.mono ?_; rintro e w1 ⟨r, rfl, o1, b1⟩
    have hrl := hL_len (L s) s.size
    obtain ⟨g, cap, rfl, _, _⟩ : ∃ g cap, r = .slice (some ⟨g, 0, none⟩) (s.size + 1) cap ∧ True ∧ True := by
      rcases o1.shape with ⟨_, e⟩ | ⟨g, cap, e, _, _⟩
      · rw [e] at hrl; simp at hrl
      · exact ⟨g, cap, by rw [e, hrl], trivial, trivial⟩
    have HRL := Lib.hid hrl
    clear hrl HP0
    go_wp2_with fail
    go_loop [4, 5] (fun n i => ∃ k : Nat, k ≤ s.size ∧ i = .int .i64 k ∧ n = .int .i64 ((arN (L s) k : Nat) : Int)) (fun _ i => s.size - (intOf i).toNat)
    case atStart => exact ⟨0, by omega, rfl, rfl⟩
    case round =>
      obtain ⟨k, hk, rfl, rfl⟩ := hrel
      have hak := arN_le HD.out k (by rw [L_len]; exact hk)
      by_cases hlt : k < s.size
      · have hlL : k < (L s).length := by rw [L_len]; exact hlt
        have hg : (L s)[k] = s[k] := L_get s k hlt
        have c1 := o1.cellAt k (by rw [HRL.out]; omega)
        rw [hL_at] at c1
        have hhN := hN_le (L s) HD.out k (by omega)
        have HS := Lib.hid (arN_succ (L s) k)
        by_cases hu : s[k].toNat = 117
        · have f1 : (((s[k].toNat : Nat) : Int) == 117) = true := by simp; omega
          have HN := Lib.hid (show arN (L s) (k + 1) = arN (L s) k + hN (L s) k by rw [HS.out, if_pos (isU_of hlL (by rw [hg]; exact hu))])
          clear hu hg
          go_wp2_with fail
          go_round
          case rel => exact ⟨k + 1, by omega, by go_num, by rw [HN.out]; go_num⟩
          case measure => simp [intOf]; omega
        · have f1 : (((s[k].toNat : Nat) : Int) == 117) = false := by simp; omega
          have HN := Lib.hid (show arN (L s) (k + 1) = arN (L s) k by rw [HS.out, if_neg (by rw [isU_not hlL (by rw [hg]; exact hu)]; simp)]; rfl)
          clear hu hg
          go_wp2_with fail
          go_round
          case rel => exact ⟨k + 1, by omega, by go_num, by rw [HN.out]⟩
          case measure => simp [intOf]; omega
      · have hke : k = s.size := by omega
        subst hke
        have hne : ((s.size : Int) + 1 == 0) = false := beq_eq_false_iff_ne.2 (by omega)
        go_wp2_with fail
        go_ret
        exact ⟨ret_int HV.out.symm, b1⟩
  · have HV := Lib.hid (show areaV (L s) = -1 by unfold areaV; rw [if_neg hp])
    rw [show hoR (L s) = [] from if_neg hp] at HP0
    clear hp
    go_enter Try.func194, Try.ntmps194
    go_wp2_with fail
    refine HP0.mono ?_; rintro e w1 ⟨r, rfl, o1, b1⟩
    obtain ⟨rA, rc, rfl, _⟩ := id o1.rd
    go_wp2_with fail
    by_cases h0 : (0 : Int) < (s.size : Int)
    all_goals (
      refine wp_loop_rounds 1 ?_
      rw [rounds_succ]
      go_wp2_with fail
      go_ret
      exact ⟨ret_int HV.out.symm, b1⟩)
set_option maxHeartbeats 1000000 in
theorem implAreaOf_any (s : ByteArray) (w : World) :
    Calls Try.prog 55 #[.string s] w fun e w' => e = .returned (.int .i64 (areaV (L s))) ∧ Below w.heap.size w w' := by
  have HP0 := implIsDyck_any s w
  by_cases hp : DyckP (L s)
  · have hl16 := hp.1
    rw [L_len] at hl16
    have HV := Lib.hid (show areaV (L s) = ((arN (L s) s.size : Nat) : Int) by unfold areaV; rw [if_pos hp, L_len])
    have HO := Lib.hid (show hoR (L s) = hL (L s) s.size by rw [hoR_yes hp, L_len])
    have HD := Lib.hid hp
    simp only [decide_eq_true hp] at HP0
    clear hp
    go_enter Try.func55, Try.ntmps55
    go_wp2_with fail
    refine HP0.mono ?_; rintro e w1 ⟨rfl, b1⟩
    go_wp2_with fail
    refine (implHeightsOf_any s _).mono ?_; rintro e w2 ⟨r, rfl, o2, b2⟩
    rw [HO.out] at o2
    have B2 := below_then b1 b2
    have hrl := hL_len (L s) s.size
    obtain ⟨g, cap, rfl, _, _⟩ : ∃ g cap, r = .slice (some ⟨g, 0, none⟩) (s.size + 1) cap ∧ True ∧ True := by
      rcases o2.shape with ⟨_, e⟩ | ⟨g, cap, e, _, _⟩
      · rw [e] at hrl; simp at hrl
      · exact ⟨g, cap, by rw [e, hrl], trivial, trivial⟩
    have HRL := Lib.hid hrl
    clear hrl HP0
    go_wp2_with fail
    go_loop [3, 5] (fun n i => ∃ k : Nat, k ≤ s.size ∧ i = .int .i64 k ∧ n = .int .i64 ((arN (L s) k : Nat) : Int)) (fun _ i => s.size - (intOf i).toNat)
    case atStart => exact ⟨0, by omega, rfl, rfl⟩
    case round =>
      obtain ⟨k, hk, rfl, rfl⟩ := hrel
      have hak := arN_le HD.out k (by rw [L_len]; exact hk)
      by_cases hlt : k < s.size
      · have hlL : k < (L s).length := by rw [L_len]; exact hlt
        have hg : (L s)[k] = s[k] := L_get s k hlt
        have c1 := o2.cellAt k (by rw [HRL.out]; omega)
        rw [hL_at] at c1
        have hhN := hN_le (L s) HD.out k (by omega)
        have HS := Lib.hid (arN_succ (L s) k)
        by_cases hu : s[k].toNat = 117
        · have f1 : (((s[k].toNat : Nat) : Int) == 117) = true := by simp; omega
          have HN := Lib.hid (show arN (L s) (k + 1) = arN (L s) k + hN (L s) k by rw [HS.out, if_pos (isU_of hlL (by rw [hg]; exact hu))])
          clear hu hg
          go_wp2_with fail
          go_round
          case rel => exact ⟨k + 1, by omega, by go_num, by rw [HN.out]; go_num⟩
          case measure => simp [intOf]; omega
        · have f1 : (((s[k].toNat : Nat) : Int) == 117) = false := by simp; omega
          have HN := Lib.hid (show arN (L s) (k + 1) = arN (L s) k by rw [HS.out, if_neg (by rw [isU_not hlL (by rw [hg]; exact hu)]; simp)]; rfl)
          clear hu hg
          go_wp2_with fail
          go_round
          case rel => exact ⟨k + 1, by omega, by go_num, by rw [HN.out]⟩
          case measure => simp [intOf]; omega
      · have hke : k = s.size := by omega
        subst hke
        go_wp2_with fail
        go_ret
        exact ⟨ret_int HV.out.symm, B2⟩
  · have HV := Lib.hid (show areaV (L s) = -1 by unfold areaV; rw [if_neg hp])
    simp only [decide_eq_false hp] at HP0
    clear hp
    go_enter Try.func55, Try.ntmps55
    go_wp2_with fail
    refine HP0.mono ?_; rintro e w1 ⟨rfl, b1⟩
    go_wp2_with fail
    go_ret
    exact ⟨ret_int HV.out.symm, b1⟩
end Go.Proofs.Ytnkkgfeegaiakaa
