/- Contracts of CountParking, and of the laws' helpers at and total. Conditions: a list of small numbers. -/
import Derived.Test.YtnkkgfeegaiakaaNum
import Derived.Test.YtnkkgfeegaiakaaGround
namespace Go.Proofs.Ytnkkgfeegaiakaa
open Go.RowKit
/-- the power, and the count by cases -/
def pw (n k : Nat) : Nat := (n + 1) ^ k
def cpk (n : Int) : Int := if 0 ≤ n ∧ n ≤ 6 then ((pw n.toNat (n.toNat - 1) : Nat) : Int) else -1
theorem pwr_bd : ∀ n < 7, ∀ k < 7, pw n k ≤ 117649 := by decide
theorem cpk_in (n : Nat) (h : n ≤ 6) : cpk (n : Int) = ((pw n (n - 1) : Nat) : Int) := by
  unfold cpk
  rw [if_pos ⟨by omega, by omega⟩]
  rfl
theorem pwr_step (n k : Nat) : ((pw n k : Nat) : Int) * ((n : Int) + 1) = ((pw n (k + 1) : Nat) : Int) := by
  unfold pw
  rw [Nat.pow_succ]
  simp
theorem pwr_wrap (n k : Nat) (h : n ≤ 6) (hk : k < 6) : wrap64 (((pw n k : Nat) : Int) * ((n : Int) + 1)) = ((pw n (k + 1) : Nat) : Int) := by
  rw [pwr_step]
  have := pwr_bd n (by omega) (k + 1) (by omega)
  exact IntWalk.wrap64_in _ ⟨by omega, by omega⟩
theorem specCountParking_any (n : Int) (w : World) :
    Calls Try.prog 142 #[.int .i64 n] w fun e w' => e = .returned (.int .i64 (cpk n)) ∧ w = w' := by
  by_cases h : 0 ≤ n ∧ n ≤ 6
  · obtain ⟨h0, h6⟩ := h
    obtain ⟨n, rfl⟩ := Int.eq_ofNat_of_zero_le h0
    rw [cpk_in n (by omega)]
    go_enter Try.func142, Try.ntmps142
    go_wp2_with (go_at_call 185; refine (l1In_yes _ _ _ _ (by omega) (by omega)).mono ?_; rintro e w' ⟨rfl, rfl⟩)
    go_loop [3, 4] (fun x i => ∃ k : Nat, k ≤ 5 ∧ (k + 1 ≤ n ∨ k = 0) ∧ i = .int .i64 ((k : Int) + 1) ∧ x = .int .i64 ((pw n k : Nat) : Int)) (fun _ i => 7 - (intOf i).toNat)
    case atStart => exact ⟨0, by omega, .inr rfl, rfl, by simp [pw]⟩
    case round =>
      obtain ⟨k, hk6, hkn, rfl, rfl⟩ := hrel
      by_cases hlt : k + 1 < n
      · have hlt' : (k : Int) + 1 < (n : Int) := by omega
        go_wp2_with fail
        go_round
        case rel => exact ⟨k + 1, by omega, by omega, by go_num, by rw [pwr_wrap _ _ (by omega) (by omega)]⟩
        case measure => simp [intOf]; omega
      · have hlt' : ¬ (k : Int) + 1 < (n : Int) := by omega
        go_wp2_with fail
        go_ret
        refine ⟨ret_int ?_, rfl⟩
        rw [show n - 1 = k from by omega]
  · go_enter Try.func142, Try.ntmps142
    go_wp2_with (go_at_call 185; refine (l1In_no _ _ _ _ h).mono ?_; rintro e w' ⟨rfl, rfl⟩)
    go_ret
    exact ⟨ret_int (by simp [cpk, h]), rfl⟩
theorem implCountParking_any (n : Int) (w : World) :
    Calls Try.prog 135 #[.int .i64 n] w fun e w' => e = .returned (.int .i64 (cpk n)) ∧ w = w' := by
  by_cases h : 0 ≤ n ∧ n ≤ 6
  · obtain ⟨h0, h6⟩ := h
    obtain ⟨n, rfl⟩ := Int.eq_ofNat_of_zero_le h0
    rw [cpk_in n (by omega)]
    by_cases hz : n = 0
    · subst hz
      go_enter Try.func135, Try.ntmps135
      go_wp2_with (go_at_call 178; refine (within_yes _ _ _ _ (by omega) (by omega)).mono ?_; rintro e w' ⟨rfl, rfl⟩)
      go_ret
      exact ⟨ret_int (by simp [pw]), rfl⟩
    · have hz' : ((n : Int) == 0) = false := by simp; omega
      clear hz
      go_enter Try.func135, Try.ntmps135
      go_wp2_with (go_at_call 178; refine (within_yes _ _ _ _ (by omega) (by omega)).mono ?_; rintro e w' ⟨rfl, rfl⟩)
      go_loop [3, 4] (fun x i => ∃ k : Nat, k ≤ 5 ∧ (k + 1 ≤ n ∨ k = 0) ∧ i = .int .i64 ((k : Int) + 1) ∧ x = .int .i64 ((pw n k : Nat) : Int)) (fun _ i => 7 - (intOf i).toNat)
      case atStart => exact ⟨0, by omega, .inr rfl, rfl, by simp [pw]⟩
      case round =>
        obtain ⟨k, hk6, hkn, rfl, rfl⟩ := hrel
        by_cases hlt : k + 1 < n
        · have hlt' : (k : Int) + 1 < (n : Int) := by omega
          go_wp2_with fail
          go_round
          case rel => exact ⟨k + 1, by omega, by omega, by go_num, by rw [pwr_wrap _ _ (by omega) (by omega)]⟩
          case measure => simp [intOf]; omega
        · have hlt' : ¬ (k : Int) + 1 < (n : Int) := by omega
          go_wp2_with fail
          go_ret
          refine ⟨ret_int ?_, rfl⟩
          rw [show n - 1 = k from by omega]
  · go_enter Try.func135, Try.ntmps135
    go_wp2_with (go_at_call 178; refine (within_no _ _ _ _ h).mono ?_; rintro e w' ⟨rfl, rfl⟩)
    go_ret
    exact ⟨ret_int (by simp [cpk, h]), rfl⟩
set_option maxRecDepth 8000 in
theorem at_any (v : Value) (bs : List UInt8) (w : World) (hv : RdR bf w v bs) (hl : bs.length ≤ 1048576) :
    Calls Try.prog 132 #[v, .int .i64 1] w fun e w' => (∃ x : Nat, e = .returned (.int .i64 (x : Int))) ∧ w = w' := by
  obtain ⟨A, c, rfl, hc, _, hA⟩ := hv
  by_cases h1 : 1 < bs.length
  · have h1i : (1 : Int) < (bs.length : Int) := by omega
    obtain ⟨b, o, rfl, hb, hcl⟩ := hA (by omega)
    have c1 := hcl 1 h1
    unfold bf at c1
    clear hcl hA
    have hr : bs[1].toNat < 256 := bs[1].toNat_lt
    have ew : IntKind.i64.wrap (bs[1].toNat : Int) = (bs[1].toNat : Int) := IntWalk.i64_in _ (by omega)
    go_enter Try.func132, Try.ntmps132
    go_wp2_with fail
    go_ret
    exact ⟨⟨bs[1].toNat, rfl⟩, rfl⟩
  · have h1i : ¬ (1 : Int) < (bs.length : Int) := by omega
    obtain ⟨x, hx⟩ : ∃ x : Nat, ((37 : Int) + (bs.length : Int) * 11).tmod 256 = (x : Int) := ⟨(((37 : Int) + (bs.length : Int) * 11).tmod 256).toNat, by
      have : ((37 : Int) + (bs.length : Int) * 11).tmod 256 = ((37 : Int) + (bs.length : Int) * 11) % 256 := Int.tmod_eq_emod_of_nonneg (by omega)
      rw [this]; omega⟩
    go_enter Try.func132, Try.ntmps132
    go_wp2_with fail
    go_ret
    exact ⟨⟨x, by first | rfl | exact hx⟩, rfl⟩
theorem take_sum_bd (f : List Int) (h : ∀ x ∈ f, 0 ≤ x ∧ x ≤ 6) : ∀ k, 0 ≤ (f.take k).sum ∧ (f.take k).sum ≤ 6 * (k : Int) := by
  intro k
  induction k with
  | zero => simp
  | succ k ih =>
    by_cases hk : k < f.length
    · rw [take_succ_get _ _ hk, List.sum_append, List.sum_cons, List.sum_nil]
      have := h f[k] (List.getElem_mem hk)
      omega
    · rw [List.take_of_length_le (by omega)]
      rw [List.take_of_length_le (by omega)] at ih
      omega
set_option maxHeartbeats 400000 in
theorem total_any (v : Value) (f : List Int) (w : World) (hv : RdI w v f) (h : ∀ x ∈ f, 0 ≤ x ∧ x ≤ 6) (hl : f.length ≤ 6) :
    Calls Try.prog 131 #[v] w fun e w' => e = .returned (.int .i64 f.sum) ∧ w = w' := by
  obtain ⟨A, c, rfl, hc, _, hA⟩ := hv
  go_enter Try.func131, Try.ntmps131
  go_wp2_with fail
  go_loop [3, 4] (fun s i => ∃ k : Nat, k ≤ f.length ∧ i = .int .i64 (k : Int) ∧ s = .int .i64 (f.take k).sum) (fun _ i => f.length - (intOf i).toNat)
  case atStart => exact ⟨0, by omega, rfl, rfl⟩
  case round =>
    obtain ⟨k, hk, rfl, rfl⟩ := hrel
    by_cases hlt : k < f.length
    · have hlti : (k : Int) < (f.length : Int) := by omega
      obtain ⟨b, o, rfl, hb, hcl⟩ := hA (by omega)
      have c1 := hcl k hlt
      clear hcl hA
      have hs := take_sum_bd f h k
      have hs2 := take_sum_bd f h (k + 1)
      have HT := Lib.hid (show (f.take (k + 1)).sum = (f.take k).sum + f[k] by rw [take_succ_get _ _ hlt, List.sum_append, List.sum_cons, List.sum_nil]; omega)
      have ew : wrap64 ((f.take k).sum + f[k]) = (f.take k).sum + f[k] := IntWalk.wrap64_in _ (by have := HT.out; exact ⟨by omega, by omega⟩)
      have ew2 : IntKind.i64.wrap ((f.take k).sum + f[k]) = (f.take k).sum + f[k] := IntWalk.i64_in _ (by have := HT.out; omega)
      generalize (f.take k).sum = X at *
      generalize f[k] = Y at *
      go_wp2_with fail
      go_round
      case rel => exact ⟨k + 1, by omega, by go_num, by rw [HT.out]⟩
      case measure => simp [intOf]; omega
    · have hlti : ¬ (k : Int) < (f.length : Int) := by omega
      obtain rfl : k = f.length := by omega
      go_wp2_with fail
      go_ret
      exact ⟨ret_int (by simp), rfl⟩
end Go.Proofs.Ytnkkgfeegaiakaa
