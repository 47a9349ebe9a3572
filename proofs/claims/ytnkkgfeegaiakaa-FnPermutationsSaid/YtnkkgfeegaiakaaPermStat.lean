/- Contracts of DescentsOf and InversionsOf, the program's and the reference's: both return the same count. No condition. -/
import Derived.Test.YtnkkgfeegaiakaaPerm
namespace Go.Proofs.Ytnkkgfeegaiakaa
open Go.RowKit
theorem specDescentsOf_any (v : Value) (p : List Int) (w : World) (hv : RdI w v p) :
    Calls Try.prog 82 #[v] w fun e w' => e = .returned (.int .i64 (desV p)) ∧ ∃ q, w' = w.drewN q := by
  have hv0 := hv
  obtain ⟨A, c, rfl, hc, hl, hA⟩ := hv
  by_cases hp : PermP p
  · have hl8 := hp.1
    have HV := Lib.hid (show desV p = (cnt p.length (desF p) : Nat) by unfold desV; rw [if_pos hp])
    go_enter Try.func82, Try.ntmps82
    go_wp2_with (go_at_call 77; refine (specIsPermutation_any _ _ _ hv0).mono ?_; rintro e w' ⟨rfl, q0, rfl⟩)
    go_loopw [3, 4] (fun n i wr => ∃ k t : Nat, (k + 1 ≤ p.length ∨ k = 0) ∧ i = .int .i64 ((k : Int) + 1) ∧ n = .int .i64 t ∧ t ≤ k ∧ Hid (cnt (k + 1) (desF p) = t) ∧ ∃ q, wr = w.drewN q) (fun _ i _ => p.length + 1 - (intOf i).toNat)
    case atStart => exact ⟨0, 0, .inr rfl, rfl, rfl, by omega, cnt_start (fun i hi => by rw [show i = 0 from by omega]; exact desF_zero p), q0, rfl⟩
    case round =>
      obtain ⟨k, t, hk, rfl, rfl, ht, HT, q, rfl⟩ := hrel
      have hw1 : IntKind.i64.wrap (k : Int) = (k : Int) := IntWalk.i64_in _ (by omega)
      have hw2 : IntKind.i64.wrap ((k : Int) + 1 - 1) = (k : Int) := by rw [show (k : Int) + 1 - 1 = (k : Int) from by omega]; exact hw1
      have hw3 : ((k : Int) + 1).toNat = k + 1 := by omega
      by_cases hlt : k + 1 < p.length
      · have hlt' : (k : Int) + 1 < (p.length : Int) := by omega
        obtain ⟨b, o, rfl, _, hcl⟩ := hA (by omega)
        have c1 := hcl k (by omega)
        have c2 := hcl (k + 1) hlt
        clear hcl hA
        by_cases hd : p[k + 1] < p[k]
        · have hf : desF p (k + 1) = true := by unfold desF; rw [getD_of hlt, Nat.add_sub_cancel, getD_of (by omega)]; simpa using hd
          have HF := Lib.hid hf
          clear hf
          go_wp2_with fail
          go_quiet (fail)
          go_wp2_with fail
          go_roundw
          case rel => exact ⟨k + 1, t + 1, by omega, by go_num, by go_num, by omega, by show cnt (k + 1 + 1) _ = _; rw [cnt_hit HF.out, HT.out], _, rfl⟩
          case measure => simp [intOf]; omega
        · have hf : desF p (k + 1) = false := by unfold desF; rw [getD_of hlt, Nat.add_sub_cancel, getD_of (by omega)]; simpa using hd
          have HF := Lib.hid hf
          clear hf
          go_wp2_with fail
          go_quiet (fail)
          go_wp2_with fail
          go_roundw
          case rel => exact ⟨k + 1, t, by omega, by go_num, rfl, by omega, by show cnt (k + 1 + 1) _ = _; rw [cnt_miss HF.out, HT.out], _, rfl⟩
          case measure => simp [intOf]; omega
      · have hlt' : ¬ (k : Int) + 1 < (p.length : Int) := by omega
        go_wp2_with fail
        go_ret
        refine ⟨ret_int ?_, q, rfl⟩
        rw [HV.out, ← HT.out]
        rcases Nat.lt_or_ge 0 p.length with h | h
        · rw [show p.length = k + 1 from by omega]
        · rw [show p.length = 0 from by omega, show k = 0 from by omega]; simp [cnt_succ, desF_zero, cnt_zero_]
  · have HV := Lib.hid (show desV p = -1 by unfold desV; rw [if_neg hp])
    go_enter Try.func82, Try.ntmps82
    go_wp2_with (go_at_call 77; refine (specIsPermutation_any _ _ _ hv0).mono ?_; rintro e w' ⟨rfl, q0, rfl⟩)
    go_ret
    exact ⟨ret_int (by rw [HV.out]), q0, rfl⟩
theorem implDescentsOf_any (v : Value) (p : List Int) (w : World) (hv : RdI w v p) :
    Calls Try.prog 81 #[v] w fun e w' => e = .returned (.int .i64 (desV p)) ∧ Below w.heap.size w w' := by
  have hv0 := hv
  obtain ⟨A, c, rfl, hc, hl, _⟩ := hv
  by_cases hp : PermP p
  · have hl8 := hp.1
    have HV := Lib.hid (show desV p = (cnt p.length (desF p) : Nat) by unfold desV; rw [if_pos hp])
    go_enter Try.func81, Try.ntmps81
    go_wp2_with (go_at_call 76; refine (implIsPermutation_any _ _ _ hv0).mono ?_; rintro e w1 ⟨rfl, b1⟩)
    have hA := (hv0.below b1).at_
    go_loopw [3, 4] (fun n i wr => ∃ k t : Nat, (k + 1 ≤ p.length ∨ k = 0) ∧ i = .int .i64 ((k : Int) + 1) ∧ n = .int .i64 t ∧ t ≤ k ∧ Hid (cnt (k + 1) (desF p) = t) ∧ ∃ q, wr = w1.drewN q) (fun _ i _ => p.length + 1 - (intOf i).toNat)
    case atStart => exact ⟨0, 0, .inr rfl, rfl, rfl, by omega, cnt_start (fun i hi => by rw [show i = 0 from by omega]; exact desF_zero p), 0, rfl⟩
    case round =>
      obtain ⟨k, t, hk, rfl, rfl, ht, HT, q, rfl⟩ := hrel
      have hw1 : IntKind.i64.wrap (k : Int) = (k : Int) := IntWalk.i64_in _ (by omega)
      have hw2 : IntKind.i64.wrap ((k : Int) + 1 - 1) = (k : Int) := by rw [show (k : Int) + 1 - 1 = (k : Int) from by omega]; exact hw1
      have hw3 : ((k : Int) + 1).toNat = k + 1 := by omega
      by_cases hlt : k + 1 < p.length
      · have hlt' : (k : Int) + 1 < (p.length : Int) := by omega
        obtain ⟨b, o, rfl, _, hcl⟩ := hA (by omega)
        have c1 := hcl k (by omega)
        have c2 := hcl (k + 1) hlt
        clear hcl hA
        by_cases hd : p[k + 1] < p[k]
        · have hf : desF p (k + 1) = true := by unfold desF; rw [getD_of hlt, Nat.add_sub_cancel, getD_of (by omega)]; simpa using hd
          have HF := Lib.hid hf
          clear hf
          go_wp2_with fail
          go_quiet (fail)
          go_wp2_with fail
          go_roundw
          case rel => exact ⟨k + 1, t + 1, by omega, by go_num, by go_num, by omega, by show cnt (k + 1 + 1) _ = _; rw [cnt_hit HF.out, HT.out], _, rfl⟩
          case measure => simp [intOf]; omega
        · have hf : desF p (k + 1) = false := by unfold desF; rw [getD_of hlt, Nat.add_sub_cancel, getD_of (by omega)]; simpa using hd
          have HF := Lib.hid hf
          clear hf
          go_wp2_with fail
          go_quiet (fail)
          go_wp2_with fail
          go_roundw
          case rel => exact ⟨k + 1, t, by omega, by go_num, rfl, by omega, by show cnt (k + 1 + 1) _ = _; rw [cnt_miss HF.out, HT.out], _, rfl⟩
          case measure => simp [intOf]; omega
      · have hlt' : ¬ (k : Int) + 1 < (p.length : Int) := by omega
        go_wp2_with fail
        go_ret
        refine ⟨ret_int ?_, below_then b1 (below_draws _ q)⟩
        rw [HV.out, ← HT.out]
        rcases Nat.lt_or_ge 0 p.length with h | h
        · rw [show p.length = k + 1 from by omega]
        · rw [show p.length = 0 from by omega, show k = 0 from by omega]; simp [cnt_succ, desF_zero, cnt_zero_]
  · have HV := Lib.hid (show desV p = -1 by unfold desV; rw [if_neg hp])
    go_enter Try.func81, Try.ntmps81
    go_wp2_with (go_at_call 76; refine (implIsPermutation_any _ _ _ hv0).mono ?_; rintro e w1 ⟨rfl, b1⟩)
    go_ret
    exact ⟨ret_int (by rw [HV.out]), b1⟩
theorem specInversionsOf_any (v : Value) (p : List Int) (w : World) (hv : RdI w v p) :
    Calls Try.prog 80 #[v] w fun e w' => e = .returned (.int .i64 (invV p)) ∧ ∃ q, w' = w.drewN q := by
  have hv0 := hv
  obtain ⟨A, c, rfl, hc, hl, hA⟩ := hv
  by_cases hp : PermP p
  · have hl8 := hp.1
    have HV := Lib.hid (show invV p = (sumTo p.length (fun a => cnt p.length (invF p a)) : Nat) by unfold invV; rw [if_pos hp])
    go_enter Try.func80, Try.ntmps80
    go_wp2_with (go_at_call 77; refine (specIsPermutation_any _ _ _ hv0).mono ?_; rintro e w' ⟨rfl, q0, rfl⟩)
    go_loopw [3, 4] (fun n i wr => ∃ k t : Nat, k ≤ p.length ∧ i = .int .i64 k ∧ n = .int .i64 t ∧ t ≤ k * 8 ∧ Hid (sumTo k (fun a => cnt p.length (invF p a)) = t) ∧ ∃ q, wr = w.drewN q) (fun _ i _ => p.length - (intOf i).toNat)
    case atStart => exact ⟨0, 0, by omega, rfl, rfl, by omega, rfl, q0, rfl⟩
    case round =>
      obtain ⟨k, t, hk, rfl, rfl, ht, HT, q, rfl⟩ := hrel
      by_cases hlt : k < p.length
      · obtain ⟨b, o, rfl, _, hcl⟩ := hA (by omega)
        have c1 := hcl k hlt
        have HC := Lib.hid hcl
        clear hcl hA
        go_wp2_with fail
        go_loopw [3, 5] (fun n i wr => ∃ j u : Nat, j + k + 1 ≤ p.length ∧ i = .int .i64 ((k : Int) + 1 + (j : Int)) ∧ n = .int .i64 ((t : Int) + (u : Int)) ∧ u ≤ j ∧ Hid (cnt (k + 1 + j) (invF p k) = u) ∧ ∃ q, wr = w.drewN q) (fun _ i _ => p.length - (intOf i).toNat)
        case atStart => exact ⟨0, 0, by omega, by simp, by simp, by omega, cnt_start (fun i hi => invF_low p k i hi), q, rfl⟩
        case round =>
          obtain ⟨j, u, hj, rfl, rfl, hu, HU, q2, rfl⟩ := hrel
          have hw3 : ((k : Int) + 1 + (j : Int)).toNat = k + 1 + j := by omega
          by_cases hjl : k + 1 + j < p.length
          · have hlt' : (k : Int) + 1 + (j : Int) < (p.length : Int) := by omega
            have c2 := HC.out (k + 1 + j) hjl
            by_cases hd : p[k + 1 + j] < p[k]
            · have hf : invF p k (k + 1 + j) = true := by unfold invF; rw [getD_of hlt, getD_of hjl]; simp; exact ⟨by omega, hd⟩
              have HF := Lib.hid hf
              clear hf
              go_wp2_with fail
              go_quiet (fail)
              go_wp2_with fail
              go_roundw
              case rel => exact ⟨j + 1, u + 1, by omega, by go_num, by go_num, by omega, by show cnt (k + 1 + j + 1) _ = _; rw [cnt_hit HF.out, HU.out], _, rfl⟩
              case measure => simp [intOf]; omega
            · have hf : invF p k (k + 1 + j) = false := by unfold invF; rw [getD_of hlt, getD_of hjl]; simp; intro _; omega
              have HF := Lib.hid hf
              clear hf
              go_wp2_with fail
              go_quiet (fail)
              go_wp2_with fail
              go_roundw
              case rel => exact ⟨j + 1, u, by omega, by go_num, rfl, by omega, by show cnt (k + 1 + j + 1) _ = _; rw [cnt_miss HF.out, HU.out], _, rfl⟩
              case measure => simp [intOf]; omega
          · have hlt' : ¬ (k : Int) + 1 + (j : Int) < (p.length : Int) := by omega
            go_wp2_with fail
            go_roundw
            case rel => exact ⟨k + 1, t + u, by omega, by go_num, by go_num, by omega, by show sumTo (k + 1) _ = _; rw [sumTo_succ, HT.out, show p.length = k + 1 + j from by omega, HU.out], _, rfl⟩
            case measure => simp [intOf]; omega
      · go_wp2_with fail
        go_ret
        refine ⟨ret_int ?_, q, rfl⟩
        rw [HV.out, ← HT.out, show k = p.length from by omega]
  · have HV := Lib.hid (show invV p = -1 by unfold invV; rw [if_neg hp])
    go_enter Try.func80, Try.ntmps80
    go_wp2_with (go_at_call 77; refine (specIsPermutation_any _ _ _ hv0).mono ?_; rintro e w' ⟨rfl, q0, rfl⟩)
    go_ret
    exact ⟨ret_int (by rw [HV.out]), q0, rfl⟩
theorem implInversionsOf_any (v : Value) (p : List Int) (w : World) (hv : RdI w v p) :
    Calls Try.prog 68 #[v] w fun e w' => e = .returned (.int .i64 (invV p)) ∧ Below w.heap.size w w' := by
  have hv0 := hv
  obtain ⟨A, c, rfl, hc, hl, _⟩ := hv
  by_cases hp : PermP p
  · have hl8 := hp.1
    have HV := Lib.hid (show invV p = (sumTo p.length (fun a => cnt p.length (invF p a)) : Nat) by unfold invV; rw [if_pos hp])
    go_enter Try.func68, Try.ntmps68
    go_wp2_with (go_at_call 76; refine (implIsPermutation_any _ _ _ hv0).mono ?_; rintro e w1 ⟨rfl, b1⟩)
    have hA := (hv0.below b1).at_
    go_loop [3, 13] (fun n i => ∃ k t : Nat, k ≤ p.length ∧ i = .int .i64 k ∧ n = .int .i64 t ∧ t ≤ k * 8 ∧ Hid (sumTo k (fun a => cnt p.length (invF p a)) = t)) (fun _ i => p.length - (intOf i).toNat)
    case atStart => exact ⟨0, 0, by omega, rfl, rfl, by omega, rfl⟩
    case round =>
      obtain ⟨k, t, hk, rfl, rfl, ht, HT⟩ := hrel
      by_cases hlt : k < p.length
      · obtain ⟨b, o, rfl, _, hcl⟩ := hA (by omega)
        have c1 := hcl k hlt
        have HC := Lib.hid hcl
        clear hcl hA
        by_cases hcap : c = k + 1
        · have HN := Lib.hid (show cnt p.length (invF p k) = 0 from cnt_none fun i hi => invF_low p k i (by omega))
          subst hcap
          go_wp2_with fail
          refine wp_loop_rounds 1 ?_
          rw [rounds_succ]
          have hlt' : ¬ (0 : Int) < ((p.length - (k + 1) : Nat) : Int) := by omega
          go_wp2_with fail
          go_round
          case rel => exact ⟨k + 1, t, by omega, by go_num, rfl, by omega, by show sumTo (k + 1) _ = _; rw [sumTo_succ, HT.out, HN.out]; rfl⟩
          case measure => simp [intOf]; omega
        · go_wp2_with fail
          go_loop [3, 23] (fun n i => ∃ j u : Nat, j + k + 1 ≤ p.length ∧ i = .int .i64 (j : Int) ∧ n = .int .i64 ((t : Int) + (u : Int)) ∧ u ≤ j ∧ Hid (cnt (k + 1 + j) (invF p k) = u)) (fun _ i => p.length - (intOf i).toNat)
          case atStart => exact ⟨0, 0, by omega, by simp, by simp, by omega, cnt_start (fun i hi => invF_low p k i hi)⟩
          case round =>
            obtain ⟨j, u, hj, rfl, rfl, hu, HU⟩ := hrel
            by_cases hjl : k + 1 + j < p.length
            · have hlt' : (j : Int) < ((p.length - (k + 1) : Nat) : Int) := by omega
              have c2 := HC.out (k + 1 + j) hjl
              rw [← Nat.add_assoc] at c2
              by_cases hd : p[k + 1 + j] < p[k]
              · have hf : invF p k (k + 1 + j) = true := by unfold invF; rw [getD_of hlt, getD_of hjl]; simp; exact ⟨by omega, hd⟩
                have HF := Lib.hid hf
                clear hf
                go_wp2_with fail
                go_round
                case rel => exact ⟨j + 1, u + 1, by omega, by go_num, by go_num, by omega, by show cnt (k + 1 + j + 1) _ = _; rw [cnt_hit HF.out, HU.out]⟩
                case measure => simp [intOf]; omega
              · have hf : invF p k (k + 1 + j) = false := by unfold invF; rw [getD_of hlt, getD_of hjl]; simp; intro _; omega
                have HF := Lib.hid hf
                clear hf
                go_wp2_with fail
                go_round
                case rel => exact ⟨j + 1, u, by omega, by go_num, rfl, by omega, by show cnt (k + 1 + j + 1) _ = _; rw [cnt_miss HF.out, HU.out]⟩
                case measure => simp [intOf]; omega
            · have hlt' : ¬ (j : Int) < ((p.length - (k + 1) : Nat) : Int) := by omega
              go_wp2_with fail
              go_round
              case rel => exact ⟨k + 1, t + u, by omega, by go_num, by go_num, by omega, by show sumTo (k + 1) _ = _; rw [sumTo_succ, HT.out, show p.length = k + 1 + j from by omega, HU.out]⟩
              case measure => simp [intOf]; omega
      · go_wp2_with fail
        go_ret
        refine ⟨ret_int ?_, b1⟩
        rw [HV.out, ← HT.out, show k = p.length from by omega]
  · have HV := Lib.hid (show invV p = -1 by unfold invV; rw [if_neg hp])
    go_enter Try.func68, Try.ntmps68
    go_wp2_with (go_at_call 76; refine (implIsPermutation_any _ _ _ hv0).mono ?_; rintro e w1 ⟨rfl, b1⟩)
    go_ret
    exact ⟨ret_int (by rw [HV.out]), b1⟩
end Go.Proofs.Ytnkkgfeegaiakaa
