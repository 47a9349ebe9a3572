/- Contracts of IsMatching, the program's and the reference's: both return whether the numbers are a matching of at most sixteen points. No condition. -/
import Derived.Test.YtnkkgfeegaiakaaNum
namespace Go.Proofs.Ytnkkgfeegaiakaa
open Go.RowKit
theorem specIsMatching_any (v : Value) (m : List Int) (w : World) (hv : RdI w v m) :
    Calls Try.prog 118 #[v] w fun e w' => e = .returned (.bool (decide (MatchP m))) ∧ ∃ q, w' = w.drewN q := by
  obtain ⟨A, c, rfl, hc, hl, hA⟩ := hv
  go_enter Try.func118, Try.ntmps118
  go_wp2_with fail
  go_loopw [3] (fun i wr => ∃ k : Nat, k ≤ m.length ∧ i = .int .i64 k ∧ Hid (∀ j, j < k → MatchOk m j) ∧ ∃ q, wr = w.drewN q) (fun i _ => m.length - (intOf i).toNat)
  case atStart => exact ⟨0, by omega, rfl, fun j hj => absurd hj (by omega), 0, rfl⟩
  case round =>
    obtain ⟨k, hk, rfl, HO, q, rfl⟩ := hrel
    by_cases hlt : k < m.length
    · obtain ⟨b, o, rfl, _, hcl⟩ := hA (by omega)
      have c1 := hcl k hlt
      by_cases hin : 0 ≤ m[k] ∧ m[k] ≤ (m.length : Int) - 1
      · obtain ⟨h0, h1⟩ := hin
        have h1' : m[k].toNat < m.length := by omega
        have c2 := hcl m[k].toNat h1'
        clear hcl hA
        by_cases hself : m[k] = (k : Int)
        · have hs : (m[k] == (k : Int)) = true := by simpa using hself
          have HS := Lib.hid hself
          clear hself c2
          go_wp2_with (go_at_call 185; refine (l1In_yes _ _ _ _ (by omega) (by omega)).mono ?_; rintro e w' ⟨rfl, rfl⟩)
          go_ret
          exact ⟨ret_bool (by simp [MatchP.not_at hlt (fun h => (h.get hlt).2.1 HS.out)]), q, rfl⟩
        · have hs : (m[k] == (k : Int)) = false := by simpa using hself
          by_cases hback : m[m[k].toNat] = (k : Int)
          · have hs2 : (m[m[k].toNat] != (k : Int)) = false := by simpa using hback
            have HB := Lib.hid hback
            clear hback
            go_wp2_with (go_at_call 185; refine (l1In_yes _ _ _ _ (by omega) (by omega)).mono ?_; rintro e w' ⟨rfl, rfl⟩)
            go_roundw
            case rel =>
              refine ⟨k + 1, by omega, by go_num, fun j hj => ?_, q, rfl⟩
              rcases Nat.lt_or_ge j k with h | h
              · exact HO.out j h
              · obtain rfl : j = k := by omega
                exact MatchOk.mk_ hlt h0 h1' hself HB.out
            case measure => simp [intOf]; omega
          · have hs2 : (m[m[k].toNat] != (k : Int)) = true := by simpa using hback
            have HB := Lib.hid hback
            clear hback
            go_wp2_with (go_at_call 185; refine (l1In_yes _ _ _ _ (by omega) (by omega)).mono ?_; rintro e w' ⟨rfl, rfl⟩)
            go_ret
            exact ⟨ret_bool (by simp [MatchP.not_at hlt (fun h => HB.out (h.get hlt).2.2.2)]), q, rfl⟩
      · clear hcl hA
        go_wp2_with (go_at_call 185; refine (l1In_no _ _ _ _ hin).mono ?_; rintro e w' ⟨rfl, rfl⟩)
        go_ret
        refine ⟨ret_bool ?_, q, rfl⟩
        have : ¬ MatchP m := MatchP.not_at hlt (fun h => hin (by obtain ⟨h0, _, h1, _⟩ := h.get hlt; exact ⟨h0, by omega⟩))
        simp [this]
    · have e : MatchP m ↔ m.length ≤ 16 := ⟨fun h => h.1, fun h => ⟨h, fun j hj => HO.out j (by omega)⟩⟩
      have H := Lib.hid e
      clear e
      go_wp2_with fail
      go_ret
      exact ⟨ret_bool (by simp [H.out]; omega), q, rfl⟩
theorem implIsMatching_any (v : Value) (m : List Int) (w : World) (hv : RdI w v m) :
    Calls Try.prog 112 #[v] w fun e w' => e = .returned (.bool (decide (MatchP m))) ∧ ∃ q, w' = w.drewN q := by
  obtain ⟨A, c, rfl, hc, hl, hA⟩ := hv
  by_cases h16 : m.length ≤ 16
  · go_enter Try.func112, Try.ntmps112
    go_wp2_with fail
    go_loopw [10] (fun i wr => ∃ k : Nat, k ≤ m.length ∧ i = .int .i64 k ∧ Hid (∀ j, j < k → MatchOk m j) ∧ ∃ q, wr = w.drewN q) (fun i _ => m.length - (intOf i).toNat)
    case atStart => exact ⟨0, by omega, rfl, fun j hj => absurd hj (by omega), 0, rfl⟩
    case round =>
      obtain ⟨k, hk, rfl, HO, q, rfl⟩ := hrel
      by_cases hlt : k < m.length
      · obtain ⟨b, o, rfl, _, hcl⟩ := hA (by omega)
        have c1 := hcl k hlt
        by_cases hin : 0 ≤ m[k] ∧ m[k] ≤ (m.length : Int) - 1
        · obtain ⟨h0, h1⟩ := hin
          have h1' : m[k].toNat < m.length := by omega
          have c2 := hcl m[k].toNat h1'
          clear hcl hA
          by_cases hself : m[k] = (k : Int)
          · have hs : (m[k] == (k : Int)) = true := by simpa using hself
            have HS := Lib.hid hself
            clear hself c2
            go_wp2_with (go_at_call 178; refine (within_yes _ _ _ _ (by omega) (by omega)).mono ?_; rintro e w' ⟨rfl, rfl⟩)
            go_ret
            exact ⟨ret_bool (by simp [MatchP.not_at hlt (fun h => (h.get hlt).2.1 HS.out)]), q, rfl⟩
          · have hs : (m[k] == (k : Int)) = false := by simpa using hself
            by_cases hback : m[m[k].toNat] = (k : Int)
            · have hs2 : (m[m[k].toNat] != (k : Int)) = false := by simpa using hback
              have HB := Lib.hid hback
              clear hback
              go_wp2_with (go_at_call 178; refine (within_yes _ _ _ _ (by omega) (by omega)).mono ?_; rintro e w' ⟨rfl, rfl⟩)
              go_roundw
              case rel =>
                refine ⟨k + 1, by omega, by go_num, fun j hj => ?_, q, rfl⟩
                rcases Nat.lt_or_ge j k with h | h
                · exact HO.out j h
                · obtain rfl : j = k := by omega
                  exact MatchOk.mk_ hlt h0 h1' hself HB.out
              case measure => simp [intOf]; omega
            · have hs2 : (m[m[k].toNat] != (k : Int)) = true := by simpa using hback
              have HB := Lib.hid hback
              clear hback
              go_wp2_with (go_at_call 178; refine (within_yes _ _ _ _ (by omega) (by omega)).mono ?_; rintro e w' ⟨rfl, rfl⟩)
              go_ret
              exact ⟨ret_bool (by simp [MatchP.not_at hlt (fun h => HB.out (h.get hlt).2.2.2)]), q, rfl⟩
        · clear hcl hA
          go_wp2_with (go_at_call 178; refine (within_no _ _ _ _ hin).mono ?_; rintro e w' ⟨rfl, rfl⟩)
          go_ret
          refine ⟨ret_bool ?_, q, rfl⟩
          have : ¬ MatchP m := MatchP.not_at hlt (fun h => hin (by obtain ⟨h0, _, h1, _⟩ := h.get hlt; exact ⟨h0, by omega⟩))
          simp [this]
      · have e : MatchP m := ⟨h16, fun j hj => HO.out j (by omega)⟩
        have H := Lib.hid e
        clear e
        go_wp2_with fail
        go_ret
        exact ⟨ret_bool (by simp [H.out]), q, rfl⟩
  · go_enter Try.func112, Try.ntmps112
    go_wp2_with fail
    go_ret
    have : ¬ MatchP m := fun h => h16 h.1
    exact ⟨ret_bool (by simp [this]), 0, rfl⟩
end Go.Proofs.Ytnkkgfeegaiakaa
