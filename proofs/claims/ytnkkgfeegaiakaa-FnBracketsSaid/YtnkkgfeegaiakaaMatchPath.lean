/- Contracts of PathOfMatching, the program's and the reference's: both return the same text and bool. No condition. -/
import Derived.Test.YtnkkgfeegaiakaaMatchStat
import Derived.Test.YtnkkgfeegaiakaaGround
namespace Go.Proofs.Ytnkkgfeegaiakaa
open Go.RowKit
theorem specPathOfMatching_any (v : Value) (m : List Int) (w : World) (hv : RdI w v m) :
    Calls Try.prog 34 #[v] w (RetSB w (pomR m)) := by
  have hv0 := hv
  obtain ⟨A, c, rfl, hc, hl, hA⟩ := hv
  by_cases hx : crossV m = 0
  · have hl16 := (crossV_ok hx).1
    have hxb : (crossV m == 0) = true := by simpa using hx
    have HV := Lib.hid (show pomR m = (pomL m m.length, true) by unfold pomR; rw [if_pos hx])
    clear hx
    go_enter Try.func34, Try.ntmps34
    go_wp2_with fail
    go_loopw [4, 5] (fun x i wr => ∃ k : Nat, k ≤ m.length ∧ i = .int .i64 k ∧ x = .string (S (pomL m k)) ∧ ∃ q, wr = w.drewN q) (fun _ i _ => m.length - (intOf i).toNat)
    case atStart => exact ⟨0, by omega, rfl, rfl, 0, rfl⟩
    case round =>
      obtain ⟨k, hk, rfl, rfl, q, rfl⟩ := hrel
      by_cases hlt : k < m.length
      · obtain ⟨b, o, rfl, _, hcl⟩ := hA (by omega)
        have c1 := hcl k hlt
        have hsz : (S (pomL m k)).size ≤ 1000 := by rw [S_size, pomL_len]; omega
        have HP := Lib.hid (pomL_succ m k)
        have hg : m.getD k 0 = m[k] := getD_of hlt 0
        rw [hg] at HP
        clear hcl hA hg
        by_cases hu : (k : Int) < m[k]
        · have HS := Lib.hid (show S (pomL m k) ++ ⟨#[117]⟩ = S (pomL m (k + 1)) by rw [S_snoc, HP.out, if_pos hu])
          go_wp2_with (go_at_call 121; refine (specIsNoncrossingMatching_any _ _ _ (hv0.drewN q)).mono ?_; rintro e w' ⟨rfl, q1, rfl⟩)
          go_roundw
          case rel => exact ⟨k + 1, by omega, by go_num, by rw [HS.out], _, (by first | rfl | exact drewN_two _ _ _)⟩
          case measure => simp [intOf]; omega
        · have HS := Lib.hid (show S (pomL m k) ++ ⟨#[100]⟩ = S (pomL m (k + 1)) by rw [S_snoc, HP.out, if_neg hu])
          go_wp2_with (go_at_call 121; refine (specIsNoncrossingMatching_any _ _ _ (hv0.drewN q)).mono ?_; rintro e w' ⟨rfl, q1, rfl⟩)
          go_roundw
          case rel => exact ⟨k + 1, by omega, by go_num, by rw [HS.out], _, (by first | rfl | exact drewN_two _ _ _)⟩
          case measure => simp [intOf]; omega
      · have hke : k = m.length := by omega
        go_wp2_with fail
        refine (specIsNoncrossingMatching_any _ _ _ (hv0.drewN q)).mono ?_; rintro e w' ⟨rfl, q1, rfl⟩
        go_wp2_with fail
        go_ret2
        subst hke
        exact RetSB.mk HV.out rfl (below_draws w _)
  · have hxb : (crossV m == 0) = false := by simpa using hx
    have HV := Lib.hid (show pomR m = ([], false) by unfold pomR; rw [if_neg hx])
    clear hx
    go_enter Try.func34, Try.ntmps34
    go_wp2_with fail
    by_cases h0 : 0 < m.length
    · refine wp_loop_rounds 1 ?_
      rw [rounds_succ]
      go_wp2_with fail
      refine (specIsNoncrossingMatching_any _ _ _ hv0).mono ?_; rintro e w' ⟨rfl, q0, rfl⟩
      go_wp2_with fail
      refine (specIsNoncrossingMatching_any _ _ _ (hv0.drewN q0)).mono ?_; rintro e w' ⟨rfl, q1, rfl⟩
      go_wp2_with fail
      go_ret2
      exact RetSB.mk HV.out rfl (below_draws w _)
    · refine wp_loop_rounds 1 ?_
      rw [rounds_succ]
      go_wp2_with fail
      refine (specIsNoncrossingMatching_any _ _ _ hv0).mono ?_; rintro e w' ⟨rfl, q1, rfl⟩
      go_wp2_with fail
      go_ret2
      exact RetSB.mk HV.out rfl (below_draws w q1)
theorem implPathOfMatching_any (v : Value) (m : List Int) (w : World) (hv : RdI w v m) :
    Calls Try.prog 107 #[v] w (RetSB w (pomR m)) := by
  have hv0 := hv
  obtain ⟨A, c, rfl, hc, hl, _⟩ := hv
  by_cases hx : crossV m = 0
  · have hl16 := (crossV_ok hx).1
    have hxb : (crossV m == 0) = true := by simpa using hx
    have HV := Lib.hid (show pomR m = (pomL m m.length, true) by unfold pomR; rw [if_pos hx])
    clear hx
    go_enter Try.func107, Try.ntmps107
    go_wp2_with fail
    refine (to_below (implIsNoncrossingMatching_any _ _ _ hv0)).mono ?_; rintro e w1 ⟨rfl, b1⟩
    go_wp2_with fail
    have own0 := OwR.emptyB w1 w.heap.size b1.size
    have hB0 : Below w.heap.size w (w1.alloc (.cells #[] 5)) := b1.alloc b1.size _
    go_loopw [4, 13] (fun x i wr => ∃ k : Nat, k ≤ m.length ∧ i = .int .i64 k ∧ OwR 5 bf wr w.heap.size x (pomL m k) ∧ Below w.heap.size w wr) (fun _ i _ => m.length - (intOf i).toNat)
    case atStart => exact ⟨0, by omega, rfl, own0, hB0⟩
    case round =>
      clear own0 hB0
      obtain ⟨k, hk, rfl, hown, hB⟩ := hrel
      have hsz := hB.size
      by_cases hlt : k < m.length
      · obtain ⟨b, o, rfl, _, hcl⟩ := (hv0.below hB).at_ (by omega)
        have c1 := hcl k hlt
        have hlen : (pomL m k).length < 1099511627776 := by rw [pomL_len]; omega
        have HP := Lib.hid (pomL_succ m k)
        have hg : m.getD k 0 = m[k] := getD_of hlt 0
        rw [hg] at HP
        clear hcl hg
        by_cases hu : (k : Int) < m[k]
        · have HS := Lib.hid (show pomL m (k + 1) = pomL m k ++ [117] by rw [HP.out, if_pos hu])
          go_wp2_with (at_builtin; refine wpList_appB _ rfl _ _ rfl w.heap.size _ _ rfl hown 117 _ rfl rfl rfl hlen hsz ?_)
          intro v' w2 hown2 hg2 hat2
          have hB2 := below_of_own hB hg2 hsz (fun g hg => (hown.lt g hg).1)
          clear hown hg2 hat2
          go_wp2_with fail
          go_roundw
          case rel => exact ⟨k + 1, by omega, by go_num, by rw [HS.out]; exact hown2, hB2⟩
          case measure => simp [intOf]; omega
        · have HS := Lib.hid (show pomL m (k + 1) = pomL m k ++ [100] by rw [HP.out, if_neg hu])
          go_wp2_with (at_builtin; refine wpList_appB _ rfl _ _ rfl w.heap.size _ _ rfl hown 100 _ rfl rfl rfl hlen hsz ?_)
          intro v' w2 hown2 hg2 hat2
          have hB2 := below_of_own hB hg2 hsz (fun g hg => (hown.lt g hg).1)
          clear hown hg2 hat2
          go_wp2_with fail
          go_roundw
          case rel => exact ⟨k + 1, by omega, by go_num, by rw [HS.out]; exact hown2, hB2⟩
          case measure => simp [intOf]; omega
      · have hke : k = m.length := by omega
        have kc := conv_row hown
        go_wp2_with fail
        go_ret2
        subst hke
        exact RetSB.mk HV.out rfl hB
  · have hxb : (crossV m == 0) = false := by simpa using hx
    have HV := Lib.hid (show pomR m = ([], false) by unfold pomR; rw [if_neg hx])
    clear hx
    go_enter Try.func107, Try.ntmps107
    go_wp2_with fail
    refine (to_below (implIsNoncrossingMatching_any _ _ _ hv0)).mono ?_; rintro e w1 ⟨rfl, b1⟩
    go_wp2_with fail
    go_ret2
    exact RetSB.mk HV.out rfl b1
end Go.Proofs.Ytnkkgfeegaiakaa
