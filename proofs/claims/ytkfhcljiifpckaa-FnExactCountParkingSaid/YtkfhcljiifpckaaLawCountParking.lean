/- The law FnExactCountParking returns true at every number: the program's count of parking functions is the reference's. No condition. -/
import Derived.Test.YtkfhcljiifpckaaFrame
import Derived.Test.YtkfhcljiifpckaaNum
namespace Go.Proofs.Ytkfhcljiifpckaa.countParking
open Go.ChangeShapes Go.WideShapes Go.ChangeAt Go.RowKit
open Go.ChangeMaps (open_string shut_string)
/-- the power, and the count by cases -/
def pw (n k : Nat) : Nat := (n + 1) ^ k
def cpk (n : Int) : Int := if 0 ≤ n ∧ n ≤ 6 then ((pw n.toNat (n.toNat - 1) : Nat) : Int) else -1
theorem pow_bd : ∀ n < 7, ∀ k < 7, pw n k ≤ 117649 := by decide
theorem cpk_in (n : Nat) (h : n ≤ 6) : cpk (n : Int) = ((pw n (n - 1) : Nat) : Int) := by
  unfold cpk
  rw [if_pos ⟨by omega, by omega⟩]
  rfl
theorem pow_step (n k : Nat) : ((pw n k : Nat) : Int) * ((n : Int) + 1) = ((pw n (k + 1) : Nat) : Int) := by
  unfold pw
  rw [Nat.pow_succ]
  simp
theorem pow_wrap (n k : Nat) (h : n ≤ 6) (hk : k < 6) : wrap64 (((pw n k : Nat) : Int) * ((n : Int) + 1)) = ((pw n (k + 1) : Nat) : Int) := by
  rw [pow_step]
  have := pow_bd n (by omega) (k + 1) (by omega)
  exact IntWalk.wrap64_in _ ⟨by omega, by omega⟩
theorem spec_any (n : Int) (w : World) :
    Calls Try.prog 15 #[.int .i64 n] w fun e w' => e = .returned (.int .i64 (cpk n)) ∧ w = w' := by
  by_cases h : 0 ≤ n ∧ n ≤ 6
  · obtain ⟨h0, h6⟩ := h
    obtain ⟨n, rfl⟩ := Int.eq_ofNat_of_zero_le h0
    rw [cpk_in n (by omega)]
    go_enter Try.func15, Try.ntmps15
    go_wp2_with (go_at_call 44; refine (l1In_yes _ _ _ _ (by omega) (by omega)).mono ?_; rintro e w' ⟨rfl, rfl⟩)
    go_loop [3, 4] (fun x i => ∃ k : Nat, k ≤ 5 ∧ (k + 1 ≤ n ∨ k = 0) ∧ i = .int .i64 ((k : Int) + 1) ∧ x = .int .i64 ((pw n k : Nat) : Int)) (fun _ i => 7 - (intOf i).toNat)
    case atStart => exact ⟨0, by omega, .inr rfl, rfl, by simp [pw]⟩
    case round =>
      obtain ⟨k, hk6, hkn, rfl, rfl⟩ := hrel
      by_cases hlt : k + 1 < n
      · have hlt' : (k : Int) + 1 < (n : Int) := by omega
        go_wp2_with fail
        go_round
        case rel => exact ⟨k + 1, by omega, by omega, by go_num, by rw [pow_wrap _ _ (by omega) (by omega)]⟩
        case measure => simp [intOf]; omega
      · have hlt' : ¬ (k : Int) + 1 < (n : Int) := by omega
        go_wp2_with fail
        go_ret
        refine ⟨ret_int ?_, rfl⟩
        rw [show n - 1 = k from by omega]
  · go_enter Try.func15, Try.ntmps15
    go_wp2_with (go_at_call 44; refine (l1In_no _ _ _ _ h).mono ?_; rintro e w' ⟨rfl, rfl⟩)
    go_ret
    exact ⟨ret_int (by simp [cpk, h]), rfl⟩
theorem impl_any (n : Int) (w : World) :
    Calls Try.prog 16 #[.int .i64 n] w fun e w' => e = .returned (.int .i64 (cpk n)) ∧ w = w' := by
  by_cases h : 0 ≤ n ∧ n ≤ 6
  · obtain ⟨h0, h6⟩ := h
    obtain ⟨n, rfl⟩ := Int.eq_ofNat_of_zero_le h0
    rw [cpk_in n (by omega)]
    by_cases hz : n = 0
    · subst hz
      go_enter Try.func16, Try.ntmps16
      go_wp2_with (go_at_call 45; refine (within_yes _ _ _ _ (by omega) (by omega)).mono ?_; rintro e w' ⟨rfl, rfl⟩)
      go_ret
      exact ⟨ret_int (by simp [pw]), rfl⟩
    · have hz' : ((n : Int) == 0) = false := by simp; omega
      clear hz
      go_enter Try.func16, Try.ntmps16
      go_wp2_with (go_at_call 45; refine (within_yes _ _ _ _ (by omega) (by omega)).mono ?_; rintro e w' ⟨rfl, rfl⟩)
      go_loop [3, 4] (fun x i => ∃ k : Nat, k ≤ 5 ∧ (k + 1 ≤ n ∨ k = 0) ∧ i = .int .i64 ((k : Int) + 1) ∧ x = .int .i64 ((pw n k : Nat) : Int)) (fun _ i => 7 - (intOf i).toNat)
      case atStart => exact ⟨0, by omega, .inr rfl, rfl, by simp [pw]⟩
      case round =>
        obtain ⟨k, hk6, hkn, rfl, rfl⟩ := hrel
        by_cases hlt : k + 1 < n
        · have hlt' : (k : Int) + 1 < (n : Int) := by omega
          go_wp2_with fail
          go_round
          case rel => exact ⟨k + 1, by omega, by omega, by go_num, by rw [pow_wrap _ _ (by omega) (by omega)]⟩
          case measure => simp [intOf]; omega
        · have hlt' : ¬ (k : Int) + 1 < (n : Int) := by omega
          go_wp2_with fail
          go_ret
          refine ⟨ret_int ?_, rfl⟩
          rw [show n - 1 = k from by omega]
  · go_enter Try.func16, Try.ntmps16
    go_wp2_with (go_at_call 45; refine (within_no _ _ _ _ h).mono ?_; rintro e w' ⟨rfl, rfl⟩)
    go_ret
    exact ⟨ret_int (by simp [cpk, h]), rfl⟩
theorem walk (w : World) (a : Int) (_h : I64 a) :
    Calls Try.prog 3 #[.int .i64 a] w fun e w' => e = .returned (.bool true) ∧ Below w.heap.size w w' := by
  go_enter Try.func3, Try.ntmps3
  go_wp2_with (first | (go_at_call 15; refine (spec_any _ _).mono ?_; rintro e w' ⟨rfl, rfl⟩) | (go_at_call 16; refine (impl_any _ _).mono ?_; rintro e w' ⟨rfl, rfl⟩))
  go_ret
  exact ⟨rfl, Below.refl _ _⟩
set_option maxRecDepth 100000 in
theorem lifted (os : Os) (started : os.Started) (H : Type) (enc : TypeId × Value → H) :
    ReturnsInHanded {} Try.checked os 3 .any (Rows.fnExactCountParkingSpec.pre6 enc Try.prog Try.f3 Rows.fnExactCountParkingRow.domain false) (Rows.fnExactCountParkingSpec.post enc Try.prog Try.f3 false true false false) := by
  refine returnsInHanded_of_change (C := Try.checked) own started (by kernel_rfl) Try.func3
    (ChangeSpec.witness6 (enc := enc) (C := Try.checked) false ⟨#[], #[.int .i64 0], []⟩ 8 (by kernel_rfl) (by kernel_rfl) (by kernel_rfl) (by kernel_rfl)) ?_
  intro W base args ds gs before hval0 hW hcnd _
  have hval : ∀ (j : Nat) t v, Try.f3.params[j]? = some t → args[j]? = some v → Value.okWide Try.prog W .any base t v := hval0
  have hW' := hW
  obtain ⟨p, q, hA0, hV, rfl, hfz, hnd⟩ := hW
  have hA : DataW.TrodAll enc Try.prog W 0 (fun _ => true) true Try.f3.params.toList args.toList ds p := hA0
  rw [Try.params3] at hA hval
  obtain ⟨v0, vs0, d0, ds0, p0, q0, hargs, rfl, rfl, h0, r0⟩ := trodAll_cons hA
  obtain ⟨rfl, rfl, rfl⟩ := trodAll_nil r0
  obtain rfl : args = #[v0] := by cases args; simp_all
  obtain ⟨rfl, rfl⟩ := trodVars_none hV
  have k0 := h0
  have lt0 : ∀ x ∈ p0, x.block < W.heap.size := by obtain ⟨m, hm⟩ := k0; exact DataW.trod_lt m _ _ _ hm
  obtain ⟨a0, rfl, e0, _, w0⟩ := open_int Try.underlying3 (hval 0 3 v0 rfl rfl) h0
  clear hA0 hval0
  refine (walk W a0 (wf_bounds w0)).mono fun e W' ⟨he, bel⟩ => ?_
  subst he
  exact ⟨_, rfl, _, _, _, [], _, [], hW', trodAll_mk1 (shut_bool Try.underlying4 _), (trodAll_cons_mk (Below.trod laidOut (by kernel_rfl) (of_decide_eq_true (by kernel_rfl)) k0 bel lt0) trodAll_mk0), rfl, bel.frame _, fun h => by cases h⟩

theorem over : Rows.fnExactCountParkingRow.holds Try.pinned (OpenSpec.ofChange Rows.fnExactCountParkingSpec) :=
  OpenClaim.holds_of_wide 3 Try.f3 rfl rfl rfl rfl rfl rfl rfl ⟨rfl, rfl, rfl, rfl, rfl⟩ rfl rfl rfl rfl rfl (by kernel_rfl) Try.func3 (by kernel_rfl)
    (of_decide_eq_true (by kernel_rfl)) (by unfold Func.isWrapper; first | (rw [if_pos (by decide +kernel)]; kernel_rfl) | (rw [if_neg (by decide +kernel)]; exact ⟨rfl, rfl⟩))
    (fun os started H enc _ => lifted os started H enc)

/-- the statement -/
theorem proved : Rows.FnExactCountParkingSaid := over
#print axioms proved
end Go.Proofs.Ytkfhcljiifpckaa.countParking
