/- Contracts of IsPartition, the program's and the reference's: both return whether the numbers are a partition. No condition. -/
import Derived.Test.YtnkkgfeegaiakaaNum
namespace Go.Proofs.Ytnkkgfeegaiakaa
open Go.RowKit
theorem specIsPartition_any (v : Value) (p : List Int) (w : World) (hv : RdI w v p) :
    Calls Try.prog 99 #[v] w fun e w' => e = .returned (.bool (decide (PartP p))) ∧ w = w' := by
  obtain ⟨A, c, rfl, hc, hl, hA⟩ := hv
  go_enter Try.func99, Try.ntmps99
  go_wp2_with fail
  go_loop [3, 4] (fun n i => ∃ k t : Nat, k ≤ p.length ∧ i = .int .i64 k ∧ n = .int .i64 t ∧ t ≤ k ∧ Hid (nextOf p k = t) ∧ Hid (∀ j, j < k → PartOk p j)) (fun _ i => p.length - (intOf i).toNat)
  case atStart => exact ⟨0, 0, by omega, rfl, rfl, by omega, rfl, fun j hj => absurd hj (by omega)⟩
  case round =>
    obtain ⟨k, t, hk, rfl, rfl, htk, HN, HO⟩ := hrel
    by_cases hlt : k < p.length
    · obtain ⟨b, o, rfl, _, hcl⟩ := hA (by omega)
      have c1 := hcl k hlt
      clear hcl hA
      by_cases hin : 0 ≤ p[k] ∧ p[k] ≤ (t : Int)
      · obtain ⟨h0, h1⟩ := hin
        by_cases heq : p[k] = (t : Int)
        · have hs : (p[k] == (t : Int)) = true := by simpa using heq
          have HE := Lib.hid heq
          clear heq
          go_wp2_with (go_at_call 185; refine (l1In_yes _ _ _ _ (by omega) (by omega)).mono ?_; rintro e w' ⟨rfl, rfl⟩)
          go_round
          case rel =>
            refine ⟨k + 1, t + 1, by omega, by go_num, by go_num, by omega, ?_, fun j hj => ?_⟩
            · show nextOf p (k + 1) = _
              rw [nextOf_succ _ _ hlt, HN.out, HE.out]; omega
            · rcases Nat.lt_or_ge j k with h | h
              · exact HO.out j h
              · obtain rfl : j = k := by omega
                exact ⟨by rw [getD_of hlt]; exact h0, by rw [getD_of hlt, HN.out]; exact h1⟩
          case measure => simp [intOf]; omega
        · have hs : (p[k] == (t : Int)) = false := by simpa using heq
          have HE := Lib.hid heq
          clear heq
          go_wp2_with (go_at_call 185; refine (l1In_yes _ _ _ _ (by omega) (by omega)).mono ?_; rintro e w' ⟨rfl, rfl⟩)
          go_round
          case rel =>
            refine ⟨k + 1, t, by omega, by go_num, rfl, by omega, ?_, fun j hj => ?_⟩
            · show nextOf p (k + 1) = _
              have := HE.out
              rw [nextOf_succ _ _ hlt, HN.out]; omega
            · rcases Nat.lt_or_ge j k with h | h
              · exact HO.out j h
              · obtain rfl : j = k := by omega
                exact ⟨by rw [getD_of hlt]; exact h0, by rw [getD_of hlt, HN.out]; exact h1⟩
          case measure => simp [intOf]; omega
      · go_wp2_with (go_at_call 185; refine (l1In_no _ _ _ _ hin).mono ?_; rintro e w' ⟨rfl, rfl⟩)
        go_ret
        refine ⟨ret_bool ?_, rfl⟩
        have : ¬ PartP p := PartP.not_at hlt (fun h => hin (by obtain ⟨h0, h1⟩ := h; rw [getD_of hlt] at h0 h1; rw [HN.out] at h1; exact ⟨h0, h1⟩))
        simp [this]
    · have e : PartP p ↔ p.length ≤ 8 := ⟨fun h => h.1, fun h => ⟨h, fun j hj => HO.out j (by omega)⟩⟩
      have H := Lib.hid e
      clear e
      go_wp2_with fail
      go_ret
      exact ⟨ret_bool (by simp [H.out]; omega), rfl⟩
theorem implIsPartition_any (v : Value) (p : List Int) (w : World) (hv : RdI w v p) :
    Calls Try.prog 98 #[v] w fun e w' => e = .returned (.bool (decide (PartP p))) ∧ w = w' := by
  obtain ⟨A, c, rfl, hc, hl, hA⟩ := hv
  by_cases h8 : p.length ≤ 8
  · go_enter Try.func98, Try.ntmps98
    go_wp2_with fail
    go_loop [3, 11] (fun n i => ∃ k t : Nat, k ≤ p.length ∧ i = .int .i64 k ∧ n = .int .i64 t ∧ t ≤ k ∧ Hid (nextOf p k = t) ∧ Hid (∀ j, j < k → PartOk p j)) (fun _ i => p.length - (intOf i).toNat)
    case atStart => exact ⟨0, 0, by omega, rfl, rfl, by omega, rfl, fun j hj => absurd hj (by omega)⟩
    case round =>
      obtain ⟨k, t, hk, rfl, rfl, htk, HN, HO⟩ := hrel
      by_cases hlt : k < p.length
      · obtain ⟨b, o, rfl, _, hcl⟩ := hA (by omega)
        have c1 := hcl k hlt
        clear hcl hA
        by_cases hin : 0 ≤ p[k] ∧ p[k] ≤ (t : Int)
        · obtain ⟨h0, h1⟩ := hin
          go_wp2_with (go_at_call 178; refine (within_yes _ _ _ _ (by omega) (by omega)).mono ?_; rintro e w' ⟨rfl, rfl⟩)
          go_ways
          go_round
          case rel =>
            refine ⟨k + 1, (max (t : Int) (p[k] + 1)).toNat, by omega, by go_num, ?_, by omega, ?_, fun j hj => ?_⟩
            · go_num
            · show nextOf p (k + 1) = _
              rw [nextOf_succ _ _ hlt, HN.out]; omega
            · rcases Nat.lt_or_ge j k with h | h
              · exact HO.out j h
              · obtain rfl : j = k := by omega
                exact ⟨by rw [getD_of hlt]; exact h0, by rw [getD_of hlt, HN.out]; exact h1⟩
          case measure => simp [intOf]; omega
        · go_wp2_with (go_at_call 178; refine (within_no _ _ _ _ hin).mono ?_; rintro e w' ⟨rfl, rfl⟩)
          go_ret
          refine ⟨ret_bool ?_, rfl⟩
          have : ¬ PartP p := PartP.not_at hlt (fun h => hin (by obtain ⟨h0, h1⟩ := h; rw [getD_of hlt] at h0 h1; rw [HN.out] at h1; exact ⟨h0, h1⟩))
          simp [this]
      · have e : PartP p := ⟨h8, fun j hj => HO.out j (by omega)⟩
        have H := Lib.hid e
        clear e
        go_wp2_with fail
        go_ret
        exact ⟨ret_bool (by simp [H.out]), rfl⟩
  · go_enter Try.func98, Try.ntmps98
    go_wp2_with fail
    go_ret
    have : ¬ PartP p := fun h => h8 h.1
    exact ⟨ret_bool (by simp [this]), rfl⟩
end Go.Proofs.Ytnkkgfeegaiakaa
