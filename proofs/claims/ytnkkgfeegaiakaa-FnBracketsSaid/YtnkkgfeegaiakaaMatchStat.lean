/- Contracts of the counts of crossings and of nestings of a matching, the program's and the reference's. No condition. -/
import Derived.Test.YtnkkgfeegaiakaaMatch
namespace Go.Proofs.Ytnkkgfeegaiakaa
open Go.RowKit
theorem specCrossingsOf_any (v : Value) (m : List Int) (w : World) (hv : RdI w v m) :
    Calls Try.prog 119 #[v] w fun e w' => e = .returned (.int .i64 (crossV m)) ∧ ∃ q, w' = w.drewN q := by
  have hv0 := hv
  obtain ⟨A, c, rfl, hc, hl, hA⟩ := hv
  by_cases hp : MatchP m
  · have hl16 := hp.1
    have HV := Lib.hid (show crossV m = (sumTo m.length (fun a => cnt m.length (crossF m a)) : Nat) by unfold crossV; rw [if_pos hp]; rfl)
    go_enter Try.func119, Try.ntmps119
    go_wp2_with (go_at_call 118; refine (specIsMatching_any _ _ _ hv0).mono ?_; rintro e w' ⟨rfl, q0, rfl⟩)
    go_loopw [3, 4] (fun n i wr => ∃ k t : Nat, k ≤ m.length ∧ i = .int .i64 k ∧ n = .int .i64 t ∧ t ≤ k * 16 ∧ Hid (sumTo k (fun a => cnt m.length (crossF m a)) = t) ∧ ∃ q, wr = w.drewN q) (fun _ i _ => m.length - (intOf i).toNat)
    case atStart => exact ⟨0, 0, by omega, rfl, rfl, by omega, rfl, q0, rfl⟩
    case round =>
      obtain ⟨k, t, hk, rfl, rfl, ht, HT, q, rfl⟩ := hrel
      by_cases hlt : k < m.length
      · obtain ⟨b, o, rfl, _, hcl⟩ := hA (by omega)
        have c1 := hcl k hlt
        have HC := Lib.hid hcl
        clear hcl hA
        go_wp2_with fail
        go_loopw [3, 5] (fun n i wr => ∃ j u : Nat, j + k + 1 ≤ m.length ∧ i = .int .i64 ((k : Int) + 1 + (j : Int)) ∧ n = .int .i64 ((t : Int) + (u : Int)) ∧ u ≤ j ∧ Hid (cnt (k + 1 + j) (crossF m k) = u) ∧ ∃ q, wr = w.drewN q) (fun _ i _ => m.length - (intOf i).toNat)
        case atStart => exact ⟨0, 0, by omega, by simp, by simp, by omega, cnt_start (fun i hi => crossF_low m k i hi), q, rfl⟩
        case round =>
          obtain ⟨j, u, hj, rfl, rfl, hu, HU, q2, rfl⟩ := hrel
          have hw3 : ((k : Int) + 1 + (j : Int)).toNat = k + 1 + j := by omega
          by_cases hjl : k + 1 + j < m.length
          · have hlt' : (k : Int) + 1 + (j : Int) < (m.length : Int) := by omega
            have c2 := HC.out (k + 1 + j) hjl
            by_cases hg1 : (k : Int) + 1 + (j : Int) < m[k]
            · by_cases hg2 : m[k] < m[k + 1 + j]
              · have HF := Lib.hid (crossF_of hlt hjl (by omega) (by omega) (by omega))
                go_wp2_with fail
                go_quiet (fail)
                go_wp2_with fail
                go_roundw
                case rel => exact ⟨j + 1, u + 1, by omega, by go_num, by go_num, by omega, by show cnt (k + 1 + j + 1) _ = _; rw [cnt_hit HF.out, HU.out], _, rfl⟩
                case measure => simp [intOf]; omega
              · have HF := Lib.hid (crossF_not hlt hjl (fun h => hg2 (by omega)))
                go_wp2_with fail
                go_quiet (fail)
                go_wp2_with fail
                go_roundw
                case rel => exact ⟨j + 1, u, by omega, by go_num, rfl, by omega, by show cnt (k + 1 + j + 1) _ = _; rw [cnt_miss HF.out, HU.out], _, rfl⟩
                case measure => simp [intOf]; omega
            · have HF := Lib.hid (crossF_not hlt hjl (fun h => hg1 (by omega)))
              have hd : decide ((k : Int) + 1 + (j : Int) < m[k]) = false := by simpa using hg1
              go_wp2_with fail
              go_quiet (fail)
              go_wp2_with fail
              go_roundw
              case rel => exact ⟨j + 1, u, by omega, by go_num, rfl, by omega, by show cnt (k + 1 + j + 1) _ = _; rw [cnt_miss HF.out, HU.out], _, rfl⟩
              case measure => simp [intOf]; omega
          · have hlt' : ¬ (k : Int) + 1 + (j : Int) < (m.length : Int) := by omega
            go_wp2_with fail
            go_roundw
            case rel => exact ⟨k + 1, t + u, by omega, by go_num, by go_num, by omega, by show sumTo (k + 1) _ = _; rw [sumTo_succ, HT.out, show m.length = k + 1 + j from by omega, HU.out], _, rfl⟩
            case measure => simp [intOf]; omega
      · go_wp2_with fail
        go_ret
        refine ⟨ret_int ?_, q, rfl⟩
        rw [HV.out, ← HT.out, show k = m.length from by omega]
  · have HV := Lib.hid (show crossV m = -1 by unfold crossV; rw [if_neg hp])
    go_enter Try.func119, Try.ntmps119
    go_wp2_with (go_at_call 118; refine (specIsMatching_any _ _ _ hv0).mono ?_; rintro e w' ⟨rfl, q0, rfl⟩)
    go_ret
    exact ⟨ret_int (by rw [HV.out]), q0, rfl⟩
theorem specNestingsOf_any (v : Value) (m : List Int) (w : World) (hv : RdI w v m) :
    Calls Try.prog 120 #[v] w fun e w' => e = .returned (.int .i64 (nestV m)) ∧ ∃ q, w' = w.drewN q := by
  have hv0 := hv
  obtain ⟨A, c, rfl, hc, hl, hA⟩ := hv
  by_cases hp : MatchP m
  · have hl16 := hp.1
    have HV := Lib.hid (show nestV m = (sumTo m.length (fun a => cnt m.length (nestF m a)) : Nat) by unfold nestV; rw [if_pos hp]; rfl)
    go_enter Try.func120, Try.ntmps120
    go_wp2_with (go_at_call 118; refine (specIsMatching_any _ _ _ hv0).mono ?_; rintro e w' ⟨rfl, q0, rfl⟩)
    go_loopw [3, 4] (fun n i wr => ∃ k t : Nat, k ≤ m.length ∧ i = .int .i64 k ∧ n = .int .i64 t ∧ t ≤ k * 16 ∧ Hid (sumTo k (fun a => cnt m.length (nestF m a)) = t) ∧ ∃ q, wr = w.drewN q) (fun _ i _ => m.length - (intOf i).toNat)
    case atStart => exact ⟨0, 0, by omega, rfl, rfl, by omega, rfl, q0, rfl⟩
    case round =>
      obtain ⟨k, t, hk, rfl, rfl, ht, HT, q, rfl⟩ := hrel
      by_cases hlt : k < m.length
      · obtain ⟨b, o, rfl, _, hcl⟩ := hA (by omega)
        have c1 := hcl k hlt
        have HC := Lib.hid hcl
        clear hcl hA
        go_wp2_with fail
        go_loopw [3, 5] (fun n i wr => ∃ j u : Nat, j + k + 1 ≤ m.length ∧ i = .int .i64 ((k : Int) + 1 + (j : Int)) ∧ n = .int .i64 ((t : Int) + (u : Int)) ∧ u ≤ j ∧ Hid (cnt (k + 1 + j) (nestF m k) = u) ∧ ∃ q, wr = w.drewN q) (fun _ i _ => m.length - (intOf i).toNat)
        case atStart => exact ⟨0, 0, by omega, by simp, by simp, by omega, cnt_start (fun i hi => nestF_low m k i hi), q, rfl⟩
        case round =>
          obtain ⟨j, u, hj, rfl, rfl, hu, HU, q2, rfl⟩ := hrel
          have hw3 : ((k : Int) + 1 + (j : Int)).toNat = k + 1 + j := by omega
          by_cases hjl : k + 1 + j < m.length
          · have hlt' : (k : Int) + 1 + (j : Int) < (m.length : Int) := by omega
            have c2 := HC.out (k + 1 + j) hjl
            by_cases hg1 : (k : Int) + 1 + (j : Int) < m[k + 1 + j]
            · by_cases hg2 : m[k + 1 + j] < m[k]
              · have HF := Lib.hid (nestF_of hlt hjl (by omega) (by omega) (by omega))
                go_wp2_with fail
                go_quiet (fail)
                go_wp2_with fail
                go_roundw
                case rel => exact ⟨j + 1, u + 1, by omega, by go_num, by go_num, by omega, by show cnt (k + 1 + j + 1) _ = _; rw [cnt_hit HF.out, HU.out], _, rfl⟩
                case measure => simp [intOf]; omega
              · have HF := Lib.hid (nestF_not hlt hjl (fun h => hg2 (by omega)))
                go_wp2_with fail
                go_quiet (fail)
                go_wp2_with fail
                go_roundw
                case rel => exact ⟨j + 1, u, by omega, by go_num, rfl, by omega, by show cnt (k + 1 + j + 1) _ = _; rw [cnt_miss HF.out, HU.out], _, rfl⟩
                case measure => simp [intOf]; omega
            · have HF := Lib.hid (nestF_not hlt hjl (fun h => hg1 (by omega)))
              have hd : decide ((k : Int) + 1 + (j : Int) < m[k + 1 + j]) = false := by simpa using hg1
              go_wp2_with fail
              go_quiet (fail)
              go_wp2_with fail
              go_roundw
              case rel => exact ⟨j + 1, u, by omega, by go_num, rfl, by omega, by show cnt (k + 1 + j + 1) _ = _; rw [cnt_miss HF.out, HU.out], _, rfl⟩
              case measure => simp [intOf]; omega
          · have hlt' : ¬ (k : Int) + 1 + (j : Int) < (m.length : Int) := by omega
            go_wp2_with fail
            go_roundw
            case rel => exact ⟨k + 1, t + u, by omega, by go_num, by go_num, by omega, by show sumTo (k + 1) _ = _; rw [sumTo_succ, HT.out, show m.length = k + 1 + j from by omega, HU.out], _, rfl⟩
            case measure => simp [intOf]; omega
      · go_wp2_with fail
        go_ret
        refine ⟨ret_int ?_, q, rfl⟩
        rw [HV.out, ← HT.out, show k = m.length from by omega]
  · have HV := Lib.hid (show nestV m = -1 by unfold nestV; rw [if_neg hp])
    go_enter Try.func120, Try.ntmps120
    go_wp2_with (go_at_call 118; refine (specIsMatching_any _ _ _ hv0).mono ?_; rintro e w' ⟨rfl, q0, rfl⟩)
    go_ret
    exact ⟨ret_int (by rw [HV.out]), q0, rfl⟩
set_option maxHeartbeats 1000000 in
theorem arcs_any (v : Value) (m : List Int) (w : World) (hv : RdI w v m) (hp : MatchP m) :
    Calls Try.prog 211 #[v] w fun e w' => e = .returned (.tuple #[.int .i64 (crossN m : Nat), .int .i64 (nestN m : Nat)]) ∧ w = w' := by
  obtain ⟨A, c, rfl, hc, hl, hA⟩ := hv
  have hl16 := hp.1
  go_enter Try.func211, Try.ntmps211
  go_wp2_with fail
  go_loop [4, 5, 12] (fun x y i => ∃ k t u : Nat, k ≤ m.length ∧ i = .int .i64 k ∧ x = .int .i64 t ∧ y = .int .i64 u ∧ t ≤ k * 16 ∧ u ≤ k * 16 ∧ Hid (sumTo k (fun a => cnt m.length (crossF m a)) = t) ∧ Hid (sumTo k (fun a => cnt m.length (nestF m a)) = u)) (fun _ _ i => m.length - (intOf i).toNat)
  case atStart => exact ⟨0, 0, 0, by omega, rfl, rfl, rfl, by omega, by omega, rfl, rfl⟩
  case round =>
    obtain ⟨k, t, u, hk, rfl, rfl, rfl, ht, hu, HT, HU⟩ := hrel
    by_cases hlt : k < m.length
    · obtain ⟨b, o, rfl, _, hcl⟩ := hA (by omega)
      have c1 := hcl k hlt
      have HC := Lib.hid hcl
      clear hcl hA
      go_wp2_with fail
      go_loop [4, 5, 19] (fun x y i => ∃ j t' u' : Nat, j ≤ m.length ∧ i = .int .i64 j ∧ x = .int .i64 ((t : Int) + (t' : Int)) ∧ y = .int .i64 ((u : Int) + (u' : Int)) ∧ t' ≤ j ∧ u' ≤ j ∧ Hid (cnt j (crossF m k) = t') ∧ Hid (cnt j (nestF m k) = u')) (fun _ _ i => m.length - (intOf i).toNat)
      case atStart => exact ⟨0, 0, 0, by omega, rfl, by simp, by simp, by omega, by omega, rfl, rfl⟩
      case round =>
        obtain ⟨j, t', u', hj, rfl, rfl, rfl, ht', hu', HT', HU'⟩ := hrel
        by_cases hjl : j < m.length
        · have c2 := HC.out j hjl
          have hinj : m[k] = m[j] → k = j := fun e => hp.inj hlt hjl e
          have HI := Lib.hid hinj
          clear hinj
          rcases (show ((k : Int) < m[k] ∧ (j : Int) < m[j] ∧ k < j ∧ (j : Int) < m[k]) ∨ ¬ (k : Int) < m[k] ∨ ((k : Int) < m[k] ∧ ¬ (j : Int) < m[j]) ∨ ((k : Int) < m[k] ∧ (j : Int) < m[j] ∧ ¬ k < j) ∨ ((k : Int) < m[k] ∧ (j : Int) < m[j] ∧ k < j ∧ ¬ (j : Int) < m[k]) from by omega) with ⟨h1, h2, h3, h4⟩ | h1 | ⟨h1, h2⟩ | ⟨h1, h2, h3⟩ | ⟨h1, h2, h3, h4⟩
          · by_cases h5 : m[k] < m[j]
            · have HF := Lib.hid (crossF_of hlt hjl h3 h4 h5)
              have HG := Lib.hid (nestF_not hlt hjl (fun h => by omega))
              go_wp2_with fail
              go_round
              case rel => exact ⟨j + 1, t' + 1, u', by omega, by go_num, by go_num, rfl, by omega, by omega, by show cnt (j + 1) _ = _; rw [cnt_hit HF.out, HT'.out], by show cnt (j + 1) _ = _; rw [cnt_miss HG.out, HU'.out]⟩
              case measure => simp [intOf]; omega
            · have HF := Lib.hid (crossF_not hlt hjl (fun h => by omega))
              have HG := Lib.hid (nestF_of hlt hjl h3 h2 (by have := HI.out; omega))
              go_wp2_with fail
              go_round
              case rel => exact ⟨j + 1, t', u' + 1, by omega, by go_num, rfl, by go_num, by omega, by omega, by show cnt (j + 1) _ = _; rw [cnt_miss HF.out, HT'.out], by show cnt (j + 1) _ = _; rw [cnt_hit HG.out, HU'.out]⟩
              case measure => simp [intOf]; omega
          all_goals
            have HF := Lib.hid (crossF_not hlt hjl (fun h => by omega))
            have HG := Lib.hid (nestF_not hlt hjl (fun h => by omega))
            go_wp2_with fail
            go_round
            case rel => exact ⟨j + 1, t', u', by omega, by go_num, rfl, rfl, by omega, by omega, by show cnt (j + 1) _ = _; rw [cnt_miss HF.out, HT'.out], by show cnt (j + 1) _ = _; rw [cnt_miss HG.out, HU'.out]⟩
            case measure => simp [intOf]; omega
        · go_wp2_with fail
          go_round
          case rel => exact ⟨k + 1, t + t', u + u', by omega, by go_num, by go_num, by go_num, by omega, by omega, by show sumTo (k + 1) _ = _; rw [sumTo_succ, HT.out, show m.length = j from by omega, HT'.out], by show sumTo (k + 1) _ = _; rw [sumTo_succ, HU.out, show m.length = j from by omega, HU'.out]⟩
          case measure => simp [intOf]; omega
    · have hke : k = m.length := by omega
      go_wp2_with fail
      go_ret2
      subst hke
      refine ⟨?_, rfl⟩
      rw [← HT.out, ← HU.out]
      rfl
theorem implCrossingsOf_any (v : Value) (m : List Int) (w : World) (hv : RdI w v m) :
    Calls Try.prog 108 #[v] w fun e w' => e = .returned (.int .i64 (crossV m)) ∧ ∃ q, w' = w.drewN q := by
  by_cases hp : MatchP m
  · have HV := Lib.hid (show crossV m = (crossN m : Nat) by unfold crossV; rw [if_pos hp])
    go_enter Try.func108, Try.ntmps108
    go_wp2_with fail
    refine (implIsMatching_any _ _ _ hv).mono ?_; rintro e w' ⟨rfl, q0, rfl⟩
    go_wp2_with fail
    refine (arcs_any _ _ _ (hv.drewN q0) hp).mono ?_; rintro e w' ⟨rfl, rfl⟩
    go_wp2_with fail
    go_ret
    exact ⟨ret_int (by rw [HV.out]), q0, rfl⟩
  · have HV := Lib.hid (show crossV m = -1 by unfold crossV; rw [if_neg hp])
    go_enter Try.func108, Try.ntmps108
    go_wp2_with fail
    refine (implIsMatching_any _ _ _ hv).mono ?_; rintro e w' ⟨rfl, q0, rfl⟩
    go_wp2_with fail
    go_ret
    exact ⟨ret_int (by rw [HV.out]), q0, rfl⟩
theorem implNestingsOf_any (v : Value) (m : List Int) (w : World) (hv : RdI w v m) :
    Calls Try.prog 109 #[v] w fun e w' => e = .returned (.int .i64 (nestV m)) ∧ ∃ q, w' = w.drewN q := by
  by_cases hp : MatchP m
  · have HV := Lib.hid (show nestV m = (nestN m : Nat) by unfold nestV; rw [if_pos hp])
    go_enter Try.func109, Try.ntmps109
    go_wp2_with fail
    refine (implIsMatching_any _ _ _ hv).mono ?_; rintro e w' ⟨rfl, q0, rfl⟩
    go_wp2_with fail
    refine (arcs_any _ _ _ (hv.drewN q0) hp).mono ?_; rintro e w' ⟨rfl, rfl⟩
    go_wp2_with fail
    go_ret
    exact ⟨ret_int (by rw [HV.out]), q0, rfl⟩
  · have HV := Lib.hid (show nestV m = -1 by unfold nestV; rw [if_neg hp])
    go_enter Try.func109, Try.ntmps109
    go_wp2_with fail
    refine (implIsMatching_any _ _ _ hv).mono ?_; rintro e w' ⟨rfl, q0, rfl⟩
    go_wp2_with fail
    go_ret
    exact ⟨ret_int (by rw [HV.out]), q0, rfl⟩
theorem implIsNoncrossingMatching_any (v : Value) (m : List Int) (w : World) (hv : RdI w v m) :
    Calls Try.prog 116 #[v] w fun e w' => e = .returned (.bool (crossV m == 0)) ∧ ∃ q, w' = w.drewN q := by
  go_enter Try.func116, Try.ntmps116
  go_wp2_with fail
  refine (implCrossingsOf_any _ _ _ hv).mono ?_; rintro e w' ⟨rfl, q0, rfl⟩
  go_wp2_with fail
  go_ret
  exact ⟨rfl, q0, rfl⟩
theorem specIsNoncrossingMatching_any (v : Value) (m : List Int) (w : World) (hv : RdI w v m) :
    Calls Try.prog 121 #[v] w fun e w' => e = .returned (.bool (crossV m == 0)) ∧ ∃ q, w' = w.drewN q := by
  go_enter Try.func121, Try.ntmps121
  go_wp2_with fail
  refine (specCrossingsOf_any _ _ _ hv).mono ?_; rintro e w' ⟨rfl, q0, rfl⟩
  go_wp2_with fail
  go_ret
  exact ⟨rfl, q0, rfl⟩
end Go.Proofs.Ytnkkgfeegaiakaa
