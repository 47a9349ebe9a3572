/- Contracts of cmp.Compare at numbers and of slices.Compare at rows of numbers. No condition. -/
import Derived.Test.YtnkkgfeegaiakaaSortInts
namespace Go.Proofs.Ytnkkgfeegaiakaa
open Go.RowKit
/-- the sign of the order of two numbers; of two rows, the first place that differs deciding -/
def cmpV (x y : Int) : Int := if x < y then -1 else if y < x then 1 else 0
def cmpL : List Int → List Int → Int
  | [], [] => 0
  | [], _ :: _ => -1
  | _ :: _, [] => 1
  | x :: xs, y :: ys => if x = y then cmpL xs ys else cmpV x y
theorem cmpV_self (x : Int) : cmpV x x = 0 := by simp [cmpV]
theorem cmpV_ne {x y : Int} (h : ¬ x = y) : cmpV x y ≠ 0 := by unfold cmpV; split <;> (try split) <;> omega
theorem cmpV_bounds (x y : Int) : -1 ≤ cmpV x y ∧ cmpV x y ≤ 1 := by unfold cmpV; split <;> (try split) <;> omega
theorem cmpL_cons (x y : Int) (xs ys : List Int) : cmpL (x :: xs) (y :: ys) = if x = y then cmpL xs ys else cmpV x y := by rw [cmpL]
theorem cmpL_drop {xs ys : List Int} {i : Nat} (h1 : i < xs.length) (h2 : i < ys.length) (h : xs[i] = ys[i]) : cmpL (xs.drop i) (ys.drop i) = cmpL (xs.drop (i + 1)) (ys.drop (i + 1)) := by
  rw [drop_get_cons _ _ h1, drop_get_cons _ _ h2, cmpL_cons, if_pos h]
theorem cmpL_stop {xs ys : List Int} {i : Nat} (h1 : i < xs.length) (h2 : i < ys.length) (h : ¬ xs[i] = ys[i]) : cmpL (xs.drop i) (ys.drop i) = cmpV xs[i] ys[i] := by
  rw [drop_get_cons _ _ h1, drop_get_cons _ _ h2, cmpL_cons, if_neg h]
theorem cmpL_right {xs ys : List Int} {i : Nat} (h1 : i < xs.length) (h2 : ys.length ≤ i) : cmpL (xs.drop i) (ys.drop i) = 1 := by
  rw [drop_get_cons _ _ h1, List.drop_eq_nil_of_le h2]; rfl
theorem cmpL_left {xs ys : List Int} {i : Nat} (h1 : xs.length ≤ i) (h2 : i < ys.length) : cmpL (xs.drop i) (ys.drop i) = -1 := by
  rw [drop_get_cons _ _ h2, List.drop_eq_nil_of_le h1]; rfl
theorem cmpL_none {xs ys : List Int} {i : Nat} (h1 : xs.length ≤ i) (h2 : ys.length ≤ i) : cmpL (xs.drop i) (ys.drop i) = 0 := by
  rw [List.drop_eq_nil_of_le h2, List.drop_eq_nil_of_le h1]; rfl
theorem cmpCompare_any (x y : Int) (w : World) : Calls Try.prog 232 #[.int .i64 x, .int .i64 y] w fun e w' => e = .returned (.int .i64 (cmpV x y)) ∧ w = w' := by
  by_cases h1 : x < y
  · have HV := Lib.hid (show cmpV x y = -1 by unfold cmpV; rw [if_pos h1])
    go_enter Try.func232, Try.ntmps232
    go_wp2_with (go_at_call 255; refine (isNaN_any _ _).mono ?_; rintro e w' ⟨rfl, rfl⟩)
    go_ret
    exact ⟨ret_int HV.out.symm, rfl⟩
  · by_cases h2 : y < x
    · have HV := Lib.hid (show cmpV x y = 1 by unfold cmpV; rw [if_neg h1, if_pos h2])
      go_enter Try.func232, Try.ntmps232
      go_wp2_with (go_at_call 255; refine (isNaN_any _ _).mono ?_; rintro e w' ⟨rfl, rfl⟩)
      go_ret
      exact ⟨ret_int HV.out.symm, rfl⟩
    · have HV := Lib.hid (show cmpV x y = 0 by unfold cmpV; rw [if_neg h1, if_neg h2])
      go_enter Try.func232, Try.ntmps232
      go_wp2_with (go_at_call 255; refine (isNaN_any _ _).mono ?_; rintro e w' ⟨rfl, rfl⟩)
      go_ret
      exact ⟨ret_int HV.out.symm, rfl⟩
set_option maxHeartbeats 1000000 in
theorem slicesCompare_any (a b : Value) (xs ys : List Int) (w : World) (ha : RdI w a xs) (hb : RdI w b ys) :
    Calls Try.prog 166 #[a, b] w fun e w' => e = .returned (.int .i64 (cmpL xs ys)) ∧ w = w' := by
  obtain ⟨A, c, rfl, hc, hl, hA⟩ := ha
  obtain ⟨B, d, rfl, hd, hm, hB⟩ := hb
  have HA := Lib.hid hA
  have HB := Lib.hid hB
  clear hA hB
  go_enter Try.func166, Try.ntmps166
  go_wp2_with fail
  go_loop [11] (fun i => ∃ k : Nat, k ≤ xs.length ∧ k ≤ ys.length ∧ i = .int .i64 (k : Int) ∧ Hid (cmpL xs ys = cmpL (xs.drop k) (ys.drop k))) (fun i => xs.length - (intOf i).toNat)
  case atStart => exact ⟨0, by omega, by omega, rfl, rfl⟩
  case round =>
    obtain ⟨k, hk, hk2, rfl, HV⟩ := hrel
    by_cases hx : k < xs.length
    · obtain ⟨b1, o1, rfl, _, h1⟩ := HA.out (by omega)
      have c1 := h1 k hx
      clear h1
      by_cases hy : k < ys.length
      · obtain ⟨b2, o2, rfl, _, h2⟩ := HB.out (by omega)
        have c2 := h2 k hy
        have hyi : (k : Int) < (ys.length : Int) := by omega
        clear h2
        by_cases he : xs[k] = ys[k]
        · have HN := Lib.hid (show cmpL xs ys = cmpL (xs.drop (k + 1)) (ys.drop (k + 1)) by rw [HV.out, cmpL_drop hx hy he])
          have HC := Lib.hid (show cmpV xs[k] ys[k] = 0 by rw [he, cmpV_self])
          generalize xs[k] = x at c1 HC he
          generalize ys[k] = y at c2 HC he
          clear he
          go_wp2_with fail
          refine (cmpCompare_any _ _ _).mono ?_; rintro e w' ⟨rfl, rfl⟩
          rw [HC.out]
          go_wp2_with fail
          go_round
          case rel => exact ⟨k + 1, by omega, by omega, by go_num, HN⟩
          case measure => simp [intOf]; omega
        · have HN := Lib.hid (show cmpL xs ys = cmpV xs[k] ys[k] by rw [HV.out, cmpL_stop hx hy he])
          have f0 : (cmpV xs[k] ys[k] != 0) = true := bne_iff_ne.2 (cmpV_ne he)
          generalize xs[k] = x at c1 HN f0 he
          generalize ys[k] = y at c2 HN f0 he
          clear he
          go_wp2_with fail
          refine (cmpCompare_any _ _ _).mono ?_; rintro e w' ⟨rfl, rfl⟩
          go_wp2_with fail
          go_ret
          exact ⟨ret_int HN.out.symm, rfl⟩
      · have HN := Lib.hid (show cmpL xs ys = 1 by rw [HV.out, cmpL_right hx (by omega)])
        have hyi : (ys.length : Int) ≤ (k : Int) := by omega
        go_wp2_with fail
        go_ret
        exact ⟨ret_int HN.out.symm, rfl⟩
    · have hke : k = xs.length := by omega
      by_cases hy : k < ys.length
      · have HN := Lib.hid (show cmpL xs ys = -1 by rw [HV.out, cmpL_left (by omega) hy])
        have hyi : (xs.length : Int) < (ys.length : Int) := by omega
        subst hke
        go_wp2_with fail
        go_ret
        exact ⟨ret_int HN.out.symm, rfl⟩
      · have HN := Lib.hid (show cmpL xs ys = 0 by rw [HV.out, cmpL_none (by omega) (by omega)])
        have hyi : ¬ (xs.length : Int) < (ys.length : Int) := by omega
        subst hke
        go_wp2_with fail
        go_ret
        exact ⟨ret_int HN.out.symm, rfl⟩
end Go.Proofs.Ytnkkgfeegaiakaa
