/- Contracts of Contains231 and Contains321, the program's and the reference's: both return whether the numbers are a permutation with three places of that pattern. No condition. -/
import Derived.Test.YtnkkgfeegaiakaaPerm
import Derived.Test.YtnkkgfeegaiakaaGround
namespace Go.Proofs.Ytnkkgfeegaiakaa
open Go.RowKit
set_option maxHeartbeats 1000000 in
theorem specContains231_any (v : Value) (p : List Int) (w : World) (hv : RdI w v p) :
    Calls Try.prog 78 #[v] w fun e w' => e = .returned (.bool (decide (TripR R231 p))) ∧ ∃ q, w' = w.drewN q := by
  have hv0 := hv
  obtain ⟨A, c, rfl, hc, hl, hA⟩ := hv
  by_cases hp : PermP p
  · have hl8 := hp.1
    go_enter Try.func78, Try.ntmps78
    go_wp2_with fail
    go_loopw [3] (fun i wr => ∃ k : Nat, k ≤ p.length ∧ i = .int .i64 k ∧ Hid (∀ j, j < k → TA R231 p j) ∧ ∃ q, wr = w.drewN q) (fun i _ => p.length - (intOf i).toNat)
    case atStart => exact ⟨0, by omega, rfl, fun j hj => absurd hj (by omega), 0, rfl⟩
    case round =>
      obtain ⟨k1, hk1, rfl, HO, q1, rfl⟩ := hrel
      by_cases hlt1 : k1 < p.length
      · obtain ⟨b, o, rfl, _, hcl⟩ := hA (by omega)
        have HC := Lib.hid hcl
        clear hcl hA
        go_wp2_with (go_at_call 77; refine (specIsPermutation_any _ _ _ (hv0.drewN _)).mono ?_; rintro e w' ⟨rfl, q0, rfl⟩)
        go_loopw [4] (fun i wr => ∃ b : Nat, k1 < b ∧ b ≤ p.length ∧ i = .int .i64 b ∧ Hid (∀ b', k1 < b' → b' < b → TB R231 p k1 b') ∧ ∃ q, wr = w.drewN q) (fun i _ => p.length - (intOf i).toNat)
        case atStart => exact ⟨k1 + 1, by omega, by omega, by go_num, fun _ h h' => absurd h (by omega), _, rfl⟩
        case round =>
          obtain ⟨k2, hk2, hl2, rfl, HB, q2, rfl⟩ := hrel
          by_cases hlt2 : k2 < p.length
          · go_wp2_with fail
            go_loopw [5] (fun i wr => ∃ b : Nat, k2 < b ∧ b ≤ p.length ∧ i = .int .i64 b ∧ Hid (∀ b', k2 < b' → b' < b → R231 (p.getD k1 0) (p.getD k2 0) (p.getD b' 0) = false) ∧ ∃ q, wr = w.drewN q) (fun i _ => p.length - (intOf i).toNat)
            case atStart => exact ⟨k2 + 1, by omega, by omega, by go_num, fun _ h h' => absurd h (by omega), _, rfl⟩
            case round =>
              obtain ⟨k3, hk3, hl3, rfl, HD, q3, rfl⟩ := hrel
              by_cases hlt3 : k3 < p.length
              · have d1 := HC.out k1 (by omega)
                have d2 := HC.out k2 hlt2
                have d3 := HC.out k3 hlt3
                by_cases e1 : p[k3] < p[k1]
                · by_cases e2 : p[k1] < p[k2]
                  · have HF := Lib.hid (show R231 p[k1] p[k2] p[k3] = true by simp [R231, e1, e2])
                    go_wp2_with fail
                    go_quiet (fail)
                    go_wp2_with fail
                    go_ret
                    refine ⟨ret_bool ?_, _, drewN_two _ _ _⟩
                    have := TripR.of_hit (R := R231) hp hk2 hk3 hlt3 HF.out
                    simp [this]
                  · have HF := Lib.hid (show R231 p[k1] p[k2] p[k3] = false by simp [R231]; intros; omega)
                    go_wp2_with fail
                    go_quiet (fail)
                    go_wp2_with fail
                    go_roundw
                    case rel =>
                      refine ⟨k3 + 1, by omega, by omega, by go_num, fun b' h h' => ?_, _, rfl⟩
                      rcases Nat.lt_or_ge b' k3 with h4 | h4
                      · exact HD.out b' h h4
                      · obtain rfl : b' = k3 := by omega
                        rw [getD_of hlt1, getD_of hlt2, getD_of hlt3]
                        exact HF.out
                    case measure => simp [intOf]; omega
                · have HF := Lib.hid (show R231 p[k1] p[k2] p[k3] = false by simp [R231]; intros; omega)
                  have hd : decide (p[k3] < p[k1]) = false := by simpa using e1
                  go_wp2_with fail
                  go_quiet (fail)
                  go_wp2_with fail
                  go_roundw
                  case rel =>
                    refine ⟨k3 + 1, by omega, by omega, by go_num, fun b' h h' => ?_, _, rfl⟩
                    rcases Nat.lt_or_ge b' k3 with h4 | h4
                    · exact HD.out b' h h4
                    · obtain rfl : b' = k3 := by omega
                      rw [getD_of hlt1, getD_of hlt2, getD_of hlt3]
                      exact HF.out
                  case measure => simp [intOf]; omega
              · go_wp2_with fail
                go_roundw
                case rel =>
                  refine ⟨k2 + 1, by omega, by omega, by go_num, fun b' h h' => ?_, _, rfl⟩
                  rcases Nat.lt_or_ge b' k2 with h4 | h4
                  · exact HB.out b' h h4
                  · obtain rfl : b' = k2 := by omega
                    exact fun c h1 h2 => HD.out c h1 (by omega)
                case measure => simp [intOf]; omega
          · go_wp2_with fail
            go_roundw
            case rel =>
              refine ⟨k1 + 1, by omega, by go_num, fun b' h => ?_, _, rfl⟩
              rcases Nat.lt_or_ge b' k1 with h4 | h4
              · exact HO.out b' h4
              · obtain rfl : b' = k1 := by omega
                exact fun b c h1 h2 h3 => HB.out b h1 (by omega) c h2 h3
            case measure => simp [intOf]; omega
      · have H := Lib.hid (show ¬ TripR R231 p from TripR.of_none (fun a ha => HO.out a (by omega)))
        go_wp2_with fail
        go_ret
        exact ⟨ret_bool (by simp [H.out]), q1, rfl⟩
  · have H := Lib.hid (show ¬ TripR R231 p from fun h => hp h.1)
    rcases Nat.eq_zero_or_pos p.length with h0 | h0
    · exact absurd ⟨by omega, fun k hk => absurd hk (by omega)⟩ hp
    go_enter Try.func78, Try.ntmps78
    go_wp2_with fail
    refine wp_loop_rounds 1 ?_
    rw [rounds_succ]
    go_wp2_with fail
    refine (specIsPermutation_any _ _ _ hv0).mono ?_; rintro e w' ⟨rfl, q0, rfl⟩
    go_wp2_with fail
    go_ret
    exact ⟨ret_bool (by simp [H.out]), q0, rfl⟩
set_option maxHeartbeats 1000000 in
theorem specContains321_any (v : Value) (p : List Int) (w : World) (hv : RdI w v p) :
    Calls Try.prog 79 #[v] w fun e w' => e = .returned (.bool (decide (TripR R321 p))) ∧ ∃ q, w' = w.drewN q := by
  have hv0 := hv
  obtain ⟨A, c, rfl, hc, hl, hA⟩ := hv
  by_cases hp : PermP p
  · have hl8 := hp.1
    go_enter Try.func79, Try.ntmps79
    go_wp2_with fail
    go_loopw [3] (fun i wr => ∃ k : Nat, k ≤ p.length ∧ i = .int .i64 k ∧ Hid (∀ j, j < k → TA R321 p j) ∧ ∃ q, wr = w.drewN q) (fun i _ => p.length - (intOf i).toNat)
    case atStart => exact ⟨0, by omega, rfl, fun j hj => absurd hj (by omega), 0, rfl⟩
    case round =>
      obtain ⟨k1, hk1, rfl, HO, q1, rfl⟩ := hrel
      by_cases hlt1 : k1 < p.length
      · obtain ⟨b, o, rfl, _, hcl⟩ := hA (by omega)
        have HC := Lib.hid hcl
        clear hcl hA
        go_wp2_with (go_at_call 77; refine (specIsPermutation_any _ _ _ (hv0.drewN _)).mono ?_; rintro e w' ⟨rfl, q0, rfl⟩)
        go_loopw [4] (fun i wr => ∃ b : Nat, k1 < b ∧ b ≤ p.length ∧ i = .int .i64 b ∧ Hid (∀ b', k1 < b' → b' < b → TB R321 p k1 b') ∧ ∃ q, wr = w.drewN q) (fun i _ => p.length - (intOf i).toNat)
        case atStart => exact ⟨k1 + 1, by omega, by omega, by go_num, fun _ h h' => absurd h (by omega), _, rfl⟩
        case round =>
          obtain ⟨k2, hk2, hl2, rfl, HB, q2, rfl⟩ := hrel
          by_cases hlt2 : k2 < p.length
          · go_wp2_with fail
            go_loopw [5] (fun i wr => ∃ b : Nat, k2 < b ∧ b ≤ p.length ∧ i = .int .i64 b ∧ Hid (∀ b', k2 < b' → b' < b → R321 (p.getD k1 0) (p.getD k2 0) (p.getD b' 0) = false) ∧ ∃ q, wr = w.drewN q) (fun i _ => p.length - (intOf i).toNat)
            case atStart => exact ⟨k2 + 1, by omega, by omega, by go_num, fun _ h h' => absurd h (by omega), _, rfl⟩
            case round =>
              obtain ⟨k3, hk3, hl3, rfl, HD, q3, rfl⟩ := hrel
              by_cases hlt3 : k3 < p.length
              · have d1 := HC.out k1 (by omega)
                have d2 := HC.out k2 hlt2
                have d3 := HC.out k3 hlt3
                by_cases e1 : p[k3] < p[k2]
                · by_cases e2 : p[k2] < p[k1]
                  · have HF := Lib.hid (show R321 p[k1] p[k2] p[k3] = true by simp [R321, e1, e2])
                    go_wp2_with fail
                    go_quiet (fail)
                    go_wp2_with fail
                    go_ret
                    refine ⟨ret_bool ?_, _, drewN_two _ _ _⟩
                    have := TripR.of_hit (R := R321) hp hk2 hk3 hlt3 HF.out
                    simp [this]
                  · have HF := Lib.hid (show R321 p[k1] p[k2] p[k3] = false by simp [R321]; intros; omega)
                    go_wp2_with fail
                    go_quiet (fail)
                    go_wp2_with fail
                    go_roundw
                    case rel =>
                      refine ⟨k3 + 1, by omega, by omega, by go_num, fun b' h h' => ?_, _, rfl⟩
                      rcases Nat.lt_or_ge b' k3 with h4 | h4
                      · exact HD.out b' h h4
                      · obtain rfl : b' = k3 := by omega
                        rw [getD_of hlt1, getD_of hlt2, getD_of hlt3]
                        exact HF.out
                    case measure => simp [intOf]; omega
                · have HF := Lib.hid (show R321 p[k1] p[k2] p[k3] = false by simp [R321]; intros; omega)
                  have hd : decide (p[k3] < p[k2]) = false := by simpa using e1
                  go_wp2_with fail
                  go_quiet (fail)
                  go_wp2_with fail
                  go_roundw
                  case rel =>
                    refine ⟨k3 + 1, by omega, by omega, by go_num, fun b' h h' => ?_, _, rfl⟩
                    rcases Nat.lt_or_ge b' k3 with h4 | h4
                    · exact HD.out b' h h4
                    · obtain rfl : b' = k3 := by omega
                      rw [getD_of hlt1, getD_of hlt2, getD_of hlt3]
                      exact HF.out
                  case measure => simp [intOf]; omega
              · go_wp2_with fail
                go_roundw
                case rel =>
                  refine ⟨k2 + 1, by omega, by omega, by go_num, fun b' h h' => ?_, _, rfl⟩
                  rcases Nat.lt_or_ge b' k2 with h4 | h4
                  · exact HB.out b' h h4
                  · obtain rfl : b' = k2 := by omega
                    exact fun c h1 h2 => HD.out c h1 (by omega)
                case measure => simp [intOf]; omega
          · go_wp2_with fail
            go_roundw
            case rel =>
              refine ⟨k1 + 1, by omega, by go_num, fun b' h => ?_, _, rfl⟩
              rcases Nat.lt_or_ge b' k1 with h4 | h4
              · exact HO.out b' h4
              · obtain rfl : b' = k1 := by omega
                exact fun b c h1 h2 h3 => HB.out b h1 (by omega) c h2 h3
            case measure => simp [intOf]; omega
      · have H := Lib.hid (show ¬ TripR R321 p from TripR.of_none (fun a ha => HO.out a (by omega)))
        go_wp2_with fail
        go_ret
        exact ⟨ret_bool (by simp [H.out]), q1, rfl⟩
  · have H := Lib.hid (show ¬ TripR R321 p from fun h => hp h.1)
    rcases Nat.eq_zero_or_pos p.length with h0 | h0
    · exact absurd ⟨by omega, fun k hk => absurd hk (by omega)⟩ hp
    go_enter Try.func79, Try.ntmps79
    go_wp2_with fail
    refine wp_loop_rounds 1 ?_
    rw [rounds_succ]
    go_wp2_with fail
    refine (specIsPermutation_any _ _ _ hv0).mono ?_; rintro e w' ⟨rfl, q0, rfl⟩
    go_wp2_with fail
    go_ret
    exact ⟨ret_bool (by simp [H.out]), q0, rfl⟩
theorem closure231 (x y z : Int) (w : World) : Calls Try.prog 196 #[.int .i64 x, .int .i64 y, .int .i64 z] w fun e w' => e = .returned (.bool (R231 x y z)) ∧ w' = w := by
  unfold R231
  by_cases h1 : z < x
  · by_cases h2 : x < y
    · go_enter Try.func196, Try.ntmps196
      go_wp2
      go_ret
      exact ⟨by simp_all, rfl⟩
    · go_enter Try.func196, Try.ntmps196
      go_wp2
      go_ret
      exact ⟨ret_bool (by simp_all), rfl⟩
  · go_enter Try.func196, Try.ntmps196
    go_wp2
    go_ret
    exact ⟨ret_bool (by simp; intros; omega), rfl⟩
theorem closure231_is {b : Bool} (x y z : Int) (w : World) (h : R231 x y z = b) : Calls Try.prog 196 #[.int .i64 x, .int .i64 y, .int .i64 z] w fun e w' => e = .returned (.bool b) ∧ w' = w := by
  rw [← h]; exact closure231 x y z w
set_option maxHeartbeats 1000000 in
theorem hasTriple231_any (v : Value) (p : List Int) (w : World) (hv : RdI w v p) :
    Calls Try.prog 195 #[v, .func (.func 196) #[] #[]] w fun e w' => e = .returned (.bool (decide (TripR R231 p))) ∧ Below w.heap.size w w' := by
  have hv0 := hv
  obtain ⟨A, c, rfl, hc, hl, _⟩ := hv
  by_cases hp : PermP p
  · have hl8 := hp.1
    go_enter Try.func195, Try.ntmps195
    go_wp2_with (go_at_call 76; refine (implIsPermutation_any _ _ _ hv0).mono ?_; rintro e w1 ⟨rfl, b1⟩)
    have hA := (hv0.below b1).at_
    go_loopw [13] (fun i wr => ∃ k : Nat, k ≤ p.length ∧ i = .int .i64 k ∧ Hid (∀ j, j < k → TA R231 p j) ∧ ∃ q, wr = w1.drewN q) (fun i _ => p.length - (intOf i).toNat)
    case atStart => exact ⟨0, by omega, rfl, fun j hj => absurd hj (by omega), 0, rfl⟩
    case round =>
      obtain ⟨k1, hk1, rfl, HO, q1, rfl⟩ := hrel
      by_cases hlt1 : k1 < p.length
      · obtain ⟨b, o, rfl, _, hcl⟩ := hA (by omega)
        have HC := Lib.hid hcl
        clear hcl hA
        go_wp2_with fail
        go_loopw [6] (fun i wr => ∃ b : Nat, k1 < b ∧ b ≤ p.length ∧ i = .int .i64 b ∧ Hid (∀ b', k1 < b' → b' < b → TB R231 p k1 b') ∧ ∃ q, wr = w1.drewN q) (fun i _ => p.length - (intOf i).toNat)
        case atStart => exact ⟨k1 + 1, by omega, by omega, by go_num, fun _ h h' => absurd h (by omega), _, rfl⟩
        case round =>
          obtain ⟨k2, hk2, hl2, rfl, HB, q2, rfl⟩ := hrel
          by_cases hlt2 : k2 < p.length
          · go_wp2_with fail
            go_loopw [7] (fun i wr => ∃ b : Nat, k2 < b ∧ b ≤ p.length ∧ i = .int .i64 b ∧ Hid (∀ b', k2 < b' → b' < b → R231 (p.getD k1 0) (p.getD k2 0) (p.getD b' 0) = false) ∧ ∃ q, wr = w1.drewN q) (fun i _ => p.length - (intOf i).toNat)
            case atStart => exact ⟨k2 + 1, by omega, by omega, by go_num, fun _ h h' => absurd h (by omega), _, rfl⟩
            case round =>
              obtain ⟨k3, hk3, hl3, rfl, HD, q3, rfl⟩ := hrel
              by_cases hlt3 : k3 < p.length
              · have d1 := HC.out k1 (by omega)
                have d2 := HC.out k2 hlt2
                have d3 := HC.out k3 hlt3
                cases e1 : R231 p[k1] p[k2] p[k3] with
                | true =>
                  have HF := Lib.hid e1
                  clear e1
                  go_wp2_with fail
                  go_quiet ((go_at_call 196; go_simp; exact quiet_add_same (closure231_is _ _ _ _ HF.out)))
                  go_wp2_with fail
                  go_ret
                  refine ⟨ret_bool ?_, below_then b1 (by rw [drewN_two]; exact below_draws _ _)⟩
                  have := TripR.of_hit (R := R231) hp hk2 hk3 hlt3 HF.out
                  simp [this]
                | false =>
                  have HF := Lib.hid e1
                  clear e1
                  go_wp2_with fail
                  go_quiet ((go_at_call 196; go_simp; exact quiet_add_same (closure231_is _ _ _ _ HF.out)))
                  go_wp2_with fail
                  go_roundw
                  case rel =>
                    refine ⟨k3 + 1, by omega, by omega, by go_num, fun b' h h' => ?_, _, rfl⟩
                    rcases Nat.lt_or_ge b' k3 with h4 | h4
                    · exact HD.out b' h h4
                    · obtain rfl : b' = k3 := by omega
                      rw [getD_of hlt1, getD_of hlt2, getD_of hlt3]
                      exact HF.out
                  case measure => simp [intOf]; omega
              · go_wp2_with fail
                go_roundw
                case rel =>
                  refine ⟨k2 + 1, by omega, by omega, by go_num, fun b' h h' => ?_, _, rfl⟩
                  rcases Nat.lt_or_ge b' k2 with h4 | h4
                  · exact HB.out b' h h4
                  · obtain rfl : b' = k2 := by omega
                    exact fun c h1 h2 => HD.out c h1 (by omega)
                case measure => simp [intOf]; omega
          · go_wp2_with fail
            go_roundw
            case rel =>
              refine ⟨k1 + 1, by omega, by go_num, fun b' h => ?_, _, rfl⟩
              rcases Nat.lt_or_ge b' k1 with h4 | h4
              · exact HO.out b' h4
              · obtain rfl : b' = k1 := by omega
                exact fun b c h1 h2 h3 => HB.out b h1 (by omega) c h2 h3
            case measure => simp [intOf]; omega
      · have H := Lib.hid (show ¬ TripR R231 p from TripR.of_none (fun a ha => HO.out a (by omega)))
        go_wp2_with fail
        go_ret
        exact ⟨ret_bool (by simp [H.out]), below_then b1 (below_draws _ _)⟩
  · have H := Lib.hid (show ¬ TripR R231 p from fun h => hp h.1)
    go_enter Try.func195, Try.ntmps195
    go_wp2_with (go_at_call 76; refine (implIsPermutation_any _ _ _ hv0).mono ?_; rintro e w1 ⟨rfl, b1⟩)
    go_ret
    exact ⟨ret_bool (by simp [H.out]), b1⟩
theorem implContains231_any (v : Value) (p : List Int) (w : World) (hv : RdI w v p) :
    Calls Try.prog 64 #[v] w fun e w' => e = .returned (.bool (decide (TripR R231 p))) ∧ Below w.heap.size w w' := by
  go_enter Try.func64, Try.ntmps64
  go_wp2_with fail
  refine (hasTriple231_any _ _ _ hv).mono ?_; rintro e w1 ⟨rfl, b1⟩
  go_wp2_with fail
  go_ret
  exact ⟨rfl, b1⟩
theorem closure321 (x y z : Int) (w : World) : Calls Try.prog 198 #[.int .i64 x, .int .i64 y, .int .i64 z] w fun e w' => e = .returned (.bool (R321 x y z)) ∧ w' = w := by
  unfold R321
  by_cases h1 : y < x
  · by_cases h2 : z < y
    · go_enter Try.func198, Try.ntmps198
      go_wp2
      go_ret
      exact ⟨by simp_all, rfl⟩
    · go_enter Try.func198, Try.ntmps198
      go_wp2
      go_ret
      exact ⟨ret_bool (by simp_all), rfl⟩
  · go_enter Try.func198, Try.ntmps198
    go_wp2
    go_ret
    exact ⟨ret_bool (by simp; intros; omega), rfl⟩
theorem closure321_is {b : Bool} (x y z : Int) (w : World) (h : R321 x y z = b) : Calls Try.prog 198 #[.int .i64 x, .int .i64 y, .int .i64 z] w fun e w' => e = .returned (.bool b) ∧ w' = w := by
  rw [← h]; exact closure321 x y z w
set_option maxHeartbeats 1000000 in
theorem hasTriple321_any (v : Value) (p : List Int) (w : World) (hv : RdI w v p) :
    Calls Try.prog 195 #[v, .func (.func 198) #[] #[]] w fun e w' => e = .returned (.bool (decide (TripR R321 p))) ∧ Below w.heap.size w w' := by
  have hv0 := hv
  obtain ⟨A, c, rfl, hc, hl, _⟩ := hv
  by_cases hp : PermP p
  · have hl8 := hp.1
    go_enter Try.func195, Try.ntmps195
    go_wp2_with (go_at_call 76; refine (implIsPermutation_any _ _ _ hv0).mono ?_; rintro e w1 ⟨rfl, b1⟩)
    have hA := (hv0.below b1).at_
    go_loopw [13] (fun i wr => ∃ k : Nat, k ≤ p.length ∧ i = .int .i64 k ∧ Hid (∀ j, j < k → TA R321 p j) ∧ ∃ q, wr = w1.drewN q) (fun i _ => p.length - (intOf i).toNat)
    case atStart => exact ⟨0, by omega, rfl, fun j hj => absurd hj (by omega), 0, rfl⟩
    case round =>
      obtain ⟨k1, hk1, rfl, HO, q1, rfl⟩ := hrel
      by_cases hlt1 : k1 < p.length
      · obtain ⟨b, o, rfl, _, hcl⟩ := hA (by omega)
        have HC := Lib.hid hcl
        clear hcl hA
        go_wp2_with fail
        go_loopw [6] (fun i wr => ∃ b : Nat, k1 < b ∧ b ≤ p.length ∧ i = .int .i64 b ∧ Hid (∀ b', k1 < b' → b' < b → TB R321 p k1 b') ∧ ∃ q, wr = w1.drewN q) (fun i _ => p.length - (intOf i).toNat)
        case atStart => exact ⟨k1 + 1, by omega, by omega, by go_num, fun _ h h' => absurd h (by omega), _, rfl⟩
        case round =>
          obtain ⟨k2, hk2, hl2, rfl, HB, q2, rfl⟩ := hrel
          by_cases hlt2 : k2 < p.length
          · go_wp2_with fail
            go_loopw [7] (fun i wr => ∃ b : Nat, k2 < b ∧ b ≤ p.length ∧ i = .int .i64 b ∧ Hid (∀ b', k2 < b' → b' < b → R321 (p.getD k1 0) (p.getD k2 0) (p.getD b' 0) = false) ∧ ∃ q, wr = w1.drewN q) (fun i _ => p.length - (intOf i).toNat)
            case atStart => exact ⟨k2 + 1, by omega, by omega, by go_num, fun _ h h' => absurd h (by omega), _, rfl⟩
            case round =>
              obtain ⟨k3, hk3, hl3, rfl, HD, q3, rfl⟩ := hrel
              by_cases hlt3 : k3 < p.length
              · have d1 := HC.out k1 (by omega)
                have d2 := HC.out k2 hlt2
                have d3 := HC.out k3 hlt3
                cases e1 : R321 p[k1] p[k2] p[k3] with
                | true =>
                  have HF := Lib.hid e1
                  clear e1
                  go_wp2_with fail
                  go_quiet ((go_at_call 198; go_simp; exact quiet_add_same (closure321_is _ _ _ _ HF.out)))
                  go_wp2_with fail
                  go_ret
                  refine ⟨ret_bool ?_, below_then b1 (by rw [drewN_two]; exact below_draws _ _)⟩
                  have := TripR.of_hit (R := R321) hp hk2 hk3 hlt3 HF.out
                  simp [this]
                | false =>
                  have HF := Lib.hid e1
                  clear e1
                  go_wp2_with fail
                  go_quiet ((go_at_call 198; go_simp; exact quiet_add_same (closure321_is _ _ _ _ HF.out)))
                  go_wp2_with fail
                  go_roundw
                  case rel =>
                    refine ⟨k3 + 1, by omega, by omega, by go_num, fun b' h h' => ?_, _, rfl⟩
                    rcases Nat.lt_or_ge b' k3 with h4 | h4
                    · exact HD.out b' h h4
                    · obtain rfl : b' = k3 := by omega
                      rw [getD_of hlt1, getD_of hlt2, getD_of hlt3]
                      exact HF.out
                  case measure => simp [intOf]; omega
              · go_wp2_with fail
                go_roundw
                case rel =>
                  refine ⟨k2 + 1, by omega, by omega, by go_num, fun b' h h' => ?_, _, rfl⟩
                  rcases Nat.lt_or_ge b' k2 with h4 | h4
                  · exact HB.out b' h h4
                  · obtain rfl : b' = k2 := by omega
                    exact fun c h1 h2 => HD.out c h1 (by omega)
                case measure => simp [intOf]; omega
          · go_wp2_with fail
            go_roundw
            case rel =>
              refine ⟨k1 + 1, by omega, by go_num, fun b' h => ?_, _, rfl⟩
              rcases Nat.lt_or_ge b' k1 with h4 | h4
              · exact HO.out b' h4
              · obtain rfl : b' = k1 := by omega
                exact fun b c h1 h2 h3 => HB.out b h1 (by omega) c h2 h3
            case measure => simp [intOf]; omega
      · have H := Lib.hid (show ¬ TripR R321 p from TripR.of_none (fun a ha => HO.out a (by omega)))
        go_wp2_with fail
        go_ret
        exact ⟨ret_bool (by simp [H.out]), below_then b1 (below_draws _ _)⟩
  · have H := Lib.hid (show ¬ TripR R321 p from fun h => hp h.1)
    go_enter Try.func195, Try.ntmps195
    go_wp2_with (go_at_call 76; refine (implIsPermutation_any _ _ _ hv0).mono ?_; rintro e w1 ⟨rfl, b1⟩)
    go_ret
    exact ⟨ret_bool (by simp [H.out]), b1⟩
theorem implContains321_any (v : Value) (p : List Int) (w : World) (hv : RdI w v p) :
    Calls Try.prog 69 #[v] w fun e w' => e = .returned (.bool (decide (TripR R321 p))) ∧ Below w.heap.size w w' := by
  go_enter Try.func69, Try.ntmps69
  go_wp2_with fail
  refine (hasTriple321_any _ _ _ hv).mono ?_; rintro e w1 ⟨rfl, b1⟩
  go_wp2_with fail
  go_ret
  exact ⟨rfl, b1⟩
end Go.Proofs.Ytnkkgfeegaiakaa
