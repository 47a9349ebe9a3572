/- Contracts of IsNoncrossing, the program's and the reference's: both return whether the numbers are a partition without crossings. No condition. -/
import Derived.Test.YtnkkgfeegaiakaaPart
import Derived.Test.YtnkkgfeegaiakaaGround
namespace Go.Proofs.Ytnkkgfeegaiakaa
open Go.RowKit
set_option maxHeartbeats 1000000 in
theorem specIsNoncrossing_any (v : Value) (p : List Int) (w : World) (hv : RdI w v p) :
    Calls Try.prog 206 #[v] w fun e w' => e = .returned (.bool (decide (NonP p))) ∧ ∃ q, w' = w.drewN q := by
  have hv0 := hv
  obtain ⟨A, c, rfl, hc, hl, hA⟩ := hv
  by_cases hp : PartP p
  · have hl8 := hp.1
    go_enter Try.func206, Try.ntmps206
    go_wp2_with fail
    go_loopw [3] (fun i wr => ∃ k : Nat, k ≤ p.length ∧ i = .int .i64 k ∧ Hid (∀ j, j < k → QA p j) ∧ ∃ q, wr = w.drewN q) (fun i _ => p.length - (intOf i).toNat)
    case atStart => exact ⟨0, by omega, rfl, fun j hj => absurd hj (by omega), 0, rfl⟩
    case round =>
      obtain ⟨k1, hk1, rfl, HO, q1, rfl⟩ := hrel
      by_cases hlt1 : k1 < p.length
      · obtain ⟨b, o, rfl, _, hcl⟩ := hA (by omega)
        have HC := Lib.hid hcl
        clear hcl hA
        go_wp2_with (go_at_call 99; refine (specIsPartition_any _ _ _ (hv0.drewN _)).mono ?_; rintro e w' ⟨rfl, rfl⟩)
        go_loopw [4] (fun i wr => ∃ b : Nat, k1 < b ∧ b ≤ p.length ∧ i = .int .i64 b ∧ Hid (∀ b', k1 < b' → b' < b → QB p k1 b') ∧ ∃ q, wr = w.drewN q) (fun i _ => p.length - (intOf i).toNat)
        case atStart => exact ⟨k1 + 1, by omega, by omega, by go_num, fun _ h h' => absurd h (by omega), _, rfl⟩
        case round =>
          obtain ⟨k2, hk2, hl2, rfl, HB, q2, rfl⟩ := hrel
          by_cases hlt2 : k2 < p.length
          · go_wp2_with fail
            go_loopw [5] (fun i wr => ∃ b : Nat, k2 < b ∧ b ≤ p.length ∧ i = .int .i64 b ∧ Hid (∀ b', k2 < b' → b' < b → QC p k1 k2 b') ∧ ∃ q, wr = w.drewN q) (fun i _ => p.length - (intOf i).toNat)
            case atStart => exact ⟨k2 + 1, by omega, by omega, by go_num, fun _ h h' => absurd h (by omega), _, rfl⟩
            case round =>
              obtain ⟨k3, hk3, hl3, rfl, HCC, q3, rfl⟩ := hrel
              by_cases hlt3 : k3 < p.length
              · go_wp2_with fail
                go_loopw [6] (fun i wr => ∃ b : Nat, k3 < b ∧ b ≤ p.length ∧ i = .int .i64 b ∧ Hid (∀ b', k3 < b' → b' < b → QuadOk p k1 k2 k3 b') ∧ ∃ q, wr = w.drewN q) (fun i _ => p.length - (intOf i).toNat)
                case atStart => exact ⟨k3 + 1, by omega, by omega, by go_num, fun _ h h' => absurd h (by omega), _, rfl⟩
                case round =>
                  obtain ⟨k4, hk4, hl4, rfl, HD, q4, rfl⟩ := hrel
                  by_cases hlt4 : k4 < p.length
                  · have d1 := HC.out k1 (by omega)
                    have d2 := HC.out k2 hlt2
                    have d3 := HC.out k3 hlt3
                    have d4 := HC.out k4 hlt4
                    by_cases e1 : p[k1] = p[k3]
                    · have f1 : (p[k1] == p[k3]) = true := by simpa using e1
                      have E1 := Lib.hid e1
                      clear e1
                      by_cases e2 : p[k2] = p[k4]
                      · have f2 : (p[k2] == p[k4]) = true := by simpa using e2
                        have E2 := Lib.hid e2
                        clear e2
                        by_cases e3 : p[k1] = p[k2]
                        · have f3 : (p[k1] != p[k2]) = false := by simpa using e3
                          have E3 := Lib.hid e3
                          clear e3
                          go_wp2_with fail
                          go_quiet (fail)
                          go_wp2_with fail
                          go_roundw
                          case rel =>
                            refine ⟨k4 + 1, by omega, by omega, by go_num, fun b' h h' => ?_, _, rfl⟩
                            rcases Nat.lt_or_ge b' k4 with h4 | h4
                            · exact HD.out b' h h4
                            · exact QuadOk.of_eq (by omega) hlt2 E3.out
                          case measure => simp [intOf]; omega
                        · have f3 : (p[k1] != p[k2]) = true := by simpa using e3
                          have E3 := Lib.hid e3
                          clear e3
                          go_wp2_with fail
                          go_quiet (fail)
                          go_wp2_with fail
                          go_ret
                          refine ⟨ret_bool ?_, _, drewN_two _ _ _⟩
                          have := NonP.not_of hk2 hk3 hk4 hlt4 E1.out E2.out E3.out
                          simp [this]
                      · have f2 : (p[k2] == p[k4]) = false := by simpa using e2
                        have E2 := Lib.hid e2
                        clear e2
                        go_wp2_with fail
                        go_quiet (fail)
                        go_wp2_with fail
                        go_roundw
                        case rel =>
                          refine ⟨k4 + 1, by omega, by omega, by go_num, fun b' h h' => ?_, _, rfl⟩
                          rcases Nat.lt_or_ge b' k4 with h4 | h4
                          · exact HD.out b' h h4
                          · obtain rfl : b' = k4 := by omega
                            exact QuadOk.of_ne2 hlt2 hlt4 E2.out
                        case measure => simp [intOf]; omega
                    · have f1 : (p[k1] == p[k3]) = false := by simpa using e1
                      have E1 := Lib.hid e1
                      clear e1
                      go_wp2_with fail
                      go_quiet (fail)
                      go_wp2_with fail
                      go_roundw
                      case rel =>
                        refine ⟨k4 + 1, by omega, by omega, by go_num, fun b' h h' => ?_, _, rfl⟩
                        rcases Nat.lt_or_ge b' k4 with h4 | h4
                        · exact HD.out b' h h4
                        · exact QuadOk.of_ne (by omega) hlt3 E1.out
                      case measure => simp [intOf]; omega
                  · go_wp2_with fail
                    go_roundw
                    case rel =>
                      refine ⟨k3 + 1, by omega, by omega, by go_num, fun b' h h' => ?_, _, rfl⟩
                      rcases Nat.lt_or_ge b' k3 with h4 | h4
                      · exact HCC.out b' h h4
                      · obtain rfl : b' = k3 := by omega
                        exact fun d hd hd' => HD.out d hd (by omega)
                    case measure => simp [intOf]; omega
              · go_wp2_with fail
                go_roundw
                case rel =>
                  refine ⟨k2 + 1, by omega, by omega, by go_num, fun b' h h' => ?_, _, rfl⟩
                  rcases Nat.lt_or_ge b' k2 with h4 | h4
                  · exact HB.out b' h h4
                  · obtain rfl : b' = k2 := by omega
                    exact fun c d h1 h2 h3 => HCC.out c h1 (by omega) d h2 h3
                case measure => simp [intOf]; omega
          · go_wp2_with fail
            go_roundw
            case rel =>
              refine ⟨k1 + 1, by omega, by go_num, fun b' h => ?_, _, rfl⟩
              rcases Nat.lt_or_ge b' k1 with h4 | h4
              · exact HO.out b' h4
              · obtain rfl : b' = k1 := by omega
                exact fun b c d h1 h2 h3 h4 => HB.out b h1 (by omega) c d h2 h3 h4
            case measure => simp [intOf]; omega
      · have H := Lib.hid (show NonP p from NonP.of_all hp (fun a ha => HO.out a (by omega)))
        go_wp2_with fail
        refine (specIsPartition_any _ _ _ (hv0.drewN _)).mono ?_; rintro e w' ⟨rfl, rfl⟩
        go_wp2_with fail
        go_ret
        exact ⟨ret_bool (by simp [H.out, hp]), q1, rfl⟩
  · have h0 : 0 < p.length := by
      rcases Nat.eq_zero_or_pos p.length with h | h
      · exact absurd ⟨by omega, fun k hk => absurd hk (by omega)⟩ hp
      · exact h
    have H := Lib.hid (show ¬ NonP p from fun h => hp h.1)
    go_enter Try.func206, Try.ntmps206
    go_wp2_with fail
    refine wp_loop_rounds 1 ?_
    rw [rounds_succ]
    go_wp2_with fail
    refine (specIsPartition_any _ _ _ hv0).mono ?_; rintro e w' ⟨rfl, rfl⟩
    go_wp2_with fail
    refine (specIsPartition_any _ _ _ hv0).mono ?_; rintro e w' ⟨rfl, rfl⟩
    go_wp2_with fail
    go_ret
    exact ⟨ret_bool (by simp [H.out, hp]), 0, rfl⟩
set_option maxHeartbeats 1000000 in
theorem implIsNoncrossing_any (v : Value) (p : List Int) (w : World) (hv : RdI w v p) :
    Calls Try.prog 87 #[v] w fun e w' => e = .returned (.bool (decide (NonP p))) ∧ ∃ q, w' = w.drewN q := by
  have hv0 := hv
  obtain ⟨A, c, rfl, hc, hl, hA⟩ := hv
  by_cases hp : PartP p
  · have hl8 := hp.1
    go_enter Try.func87, Try.ntmps87
    go_wp2_with (go_at_call 98; refine (implIsPartition_any _ _ _ hv0).mono ?_; rintro e w' ⟨rfl, rfl⟩)
    go_loopw [12] (fun i wr => ∃ k : Nat, k ≤ p.length ∧ i = .int .i64 k ∧ Hid (∀ j, j < k → QA p j) ∧ ∃ q, wr = w.drewN q) (fun i _ => p.length - (intOf i).toNat)
    case atStart => exact ⟨0, by omega, rfl, fun j hj => absurd hj (by omega), 0, rfl⟩
    case round =>
      obtain ⟨k1, hk1, rfl, HO, q1, rfl⟩ := hrel
      by_cases hlt1 : k1 < p.length
      · obtain ⟨b, o, rfl, _, hcl⟩ := hA (by omega)
        have HC := Lib.hid hcl
        clear hcl hA
        go_wp2_with fail
        go_loopw [4] (fun i wr => ∃ b : Nat, k1 < b ∧ b ≤ p.length ∧ i = .int .i64 b ∧ Hid (∀ b', k1 < b' → b' < b → QB p k1 b') ∧ ∃ q, wr = w.drewN q) (fun i _ => p.length - (intOf i).toNat)
        case atStart => exact ⟨k1 + 1, by omega, by omega, by go_num, fun _ h h' => absurd h (by omega), _, rfl⟩
        case round =>
          obtain ⟨k2, hk2, hl2, rfl, HB, q2, rfl⟩ := hrel
          by_cases hlt2 : k2 < p.length
          · go_wp2_with fail
            go_loopw [5] (fun i wr => ∃ b : Nat, k2 < b ∧ b ≤ p.length ∧ i = .int .i64 b ∧ Hid (∀ b', k2 < b' → b' < b → QC p k1 k2 b') ∧ ∃ q, wr = w.drewN q) (fun i _ => p.length - (intOf i).toNat)
            case atStart => exact ⟨k2 + 1, by omega, by omega, by go_num, fun _ h h' => absurd h (by omega), _, rfl⟩
            case round =>
              obtain ⟨k3, hk3, hl3, rfl, HCC, q3, rfl⟩ := hrel
              by_cases hlt3 : k3 < p.length
              · go_wp2_with fail
                go_loopw [6] (fun i wr => ∃ b : Nat, k3 < b ∧ b ≤ p.length ∧ i = .int .i64 b ∧ Hid (∀ b', k3 < b' → b' < b → QuadOk p k1 k2 k3 b') ∧ ∃ q, wr = w.drewN q) (fun i _ => p.length - (intOf i).toNat)
                case atStart => exact ⟨k3 + 1, by omega, by omega, by go_num, fun _ h h' => absurd h (by omega), _, rfl⟩
                case round =>
                  obtain ⟨k4, hk4, hl4, rfl, HD, q4, rfl⟩ := hrel
                  by_cases hlt4 : k4 < p.length
                  · have d1 := HC.out k1 (by omega)
                    have d2 := HC.out k2 hlt2
                    have d3 := HC.out k3 hlt3
                    have d4 := HC.out k4 hlt4
                    by_cases e1 : p[k1] = p[k3]
                    · have f1 : (p[k1] == p[k3]) = true := by simpa using e1
                      have E1 := Lib.hid e1
                      clear e1
                      by_cases e2 : p[k2] = p[k4]
                      · have f2 : (p[k2] == p[k4]) = true := by simpa using e2
                        have E2 := Lib.hid e2
                        clear e2
                        by_cases e3 : p[k1] = p[k2]
                        · have f3 : (p[k1] != p[k2]) = false := by simpa using e3
                          have E3 := Lib.hid e3
                          clear e3
                          go_wp2_with fail
                          go_quiet (fail)
                          go_wp2_with fail
                          go_roundw
                          case rel =>
                            refine ⟨k4 + 1, by omega, by omega, by go_num, fun b' h h' => ?_, _, rfl⟩
                            rcases Nat.lt_or_ge b' k4 with h4 | h4
                            · exact HD.out b' h h4
                            · exact QuadOk.of_eq (by omega) hlt2 E3.out
                          case measure => simp [intOf]; omega
                        · have f3 : (p[k1] != p[k2]) = true := by simpa using e3
                          have E3 := Lib.hid e3
                          clear e3
                          go_wp2_with fail
                          go_quiet (fail)
                          go_wp2_with fail
                          go_ret
                          refine ⟨ret_bool ?_, _, drewN_two _ _ _⟩
                          have := NonP.not_of hk2 hk3 hk4 hlt4 E1.out E2.out E3.out
                          simp [this]
                      · have f2 : (p[k2] == p[k4]) = false := by simpa using e2
                        have E2 := Lib.hid e2
                        clear e2
                        go_wp2_with fail
                        go_quiet (fail)
                        go_wp2_with fail
                        go_roundw
                        case rel =>
                          refine ⟨k4 + 1, by omega, by omega, by go_num, fun b' h h' => ?_, _, rfl⟩
                          rcases Nat.lt_or_ge b' k4 with h4 | h4
                          · exact HD.out b' h h4
                          · obtain rfl : b' = k4 := by omega
                            exact QuadOk.of_ne2 hlt2 hlt4 E2.out
                        case measure => simp [intOf]; omega
                    · have f1 : (p[k1] == p[k3]) = false := by simpa using e1
                      have E1 := Lib.hid e1
                      clear e1
                      go_wp2_with fail
                      go_quiet (fail)
                      go_wp2_with fail
                      go_roundw
                      case rel =>
                        refine ⟨k4 + 1, by omega, by omega, by go_num, fun b' h h' => ?_, _, rfl⟩
                        rcases Nat.lt_or_ge b' k4 with h4 | h4
                        · exact HD.out b' h h4
                        · exact QuadOk.of_ne (by omega) hlt3 E1.out
                      case measure => simp [intOf]; omega
                  · go_wp2_with fail
                    go_roundw
                    case rel =>
                      refine ⟨k3 + 1, by omega, by omega, by go_num, fun b' h h' => ?_, _, rfl⟩
                      rcases Nat.lt_or_ge b' k3 with h4 | h4
                      · exact HCC.out b' h h4
                      · obtain rfl : b' = k3 := by omega
                        exact fun d hd hd' => HD.out d hd (by omega)
                    case measure => simp [intOf]; omega
              · go_wp2_with fail
                go_roundw
                case rel =>
                  refine ⟨k2 + 1, by omega, by omega, by go_num, fun b' h h' => ?_, _, rfl⟩
                  rcases Nat.lt_or_ge b' k2 with h4 | h4
                  · exact HB.out b' h h4
                  · obtain rfl : b' = k2 := by omega
                    exact fun c d h1 h2 h3 => HCC.out c h1 (by omega) d h2 h3
                case measure => simp [intOf]; omega
          · go_wp2_with fail
            go_roundw
            case rel =>
              refine ⟨k1 + 1, by omega, by go_num, fun b' h => ?_, _, rfl⟩
              rcases Nat.lt_or_ge b' k1 with h4 | h4
              · exact HO.out b' h4
              · obtain rfl : b' = k1 := by omega
                exact fun b c d h1 h2 h3 h4 => HB.out b h1 (by omega) c d h2 h3 h4
            case measure => simp [intOf]; omega
      · have H := Lib.hid (show NonP p from NonP.of_all hp (fun a ha => HO.out a (by omega)))
        go_wp2_with fail
        go_ret
        exact ⟨ret_bool (by simp [H.out]), q1, rfl⟩
  · have H := Lib.hid (show ¬ NonP p from fun h => hp h.1)
    go_enter Try.func87, Try.ntmps87
    go_wp2_with (go_at_call 98; refine (implIsPartition_any _ _ _ hv0).mono ?_; rintro e w' ⟨rfl, rfl⟩)
    go_ret
    exact ⟨ret_bool (by simp [H.out]), 0, rfl⟩
end Go.Proofs.Ytnkkgfeegaiakaa
