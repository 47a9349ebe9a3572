/- Contracts of PathOfTableau, the program's and the reference's: both return the same text and bool. No condition. -/
import Derived.Test.YtnkkgfeegaiakaaTabImpl
import Derived.Test.YtnkkgfeegaiakaaPlain16
import Derived.Test.YtnkkgfeegaiakaaGround
namespace Go.Proofs.Ytnkkgfeegaiakaa
open Go.RowKit
theorem mem_take_succ {a : List Int} {m : Nat} (h : m < a.length) (x : Int) : x ∈ a.take (m + 1) ↔ x ∈ a.take m ∨ a[m] = x := by
  rw [take_succ_get _ _ h, List.mem_append, List.mem_singleton]
  exact or_congr_right ⟨fun e => e.symm, fun e => e.symm⟩
set_option maxHeartbeats 1000000 in
theorem specPathOfTableau_any (v : Value) (t : List (List Int)) (w : World) (hv : RdSS w v t) :
    Calls Try.prog 24 #[v] w (RetSB w (potR t)) := by
  have hv0 := hv
  have HP0 := specIsTableau_any _ _ _ hv0
  obtain ⟨A, c, rfl, hc, hl, _⟩ := hv
  by_cases hT : TabP t
  · simp only [decide_eq_true hT] at HP0
    obtain ⟨b, o, rfl, hb, A0, c0, A1, c1, d0, d1, r0, r1⟩ := hv0.two hT.1
    have hi0 : (0 : Int) < (t.length : Int) := by have := hT.1; omega
    have HV := Lib.hid (show potR t = (potL (rw_ t 0) (2 * (rw_ t 0).length), true) by unfold potR; rw [if_pos hT])
    have h8 : (rw_ t 0).length ≤ 8 := hT.2.2.1
    clear hT d1 r1
    generalize rw_ t 0 = a at *
    have hw2 : IntKind.i64.wrap (2 * (a.length : Int)) = 2 * (a.length : Int) := IntWalk.i64_in _ (by omega)
    go_enter Try.func24, Try.ntmps24
    go_wp2_with fail
    refine HP0.mono ?_; rintro e w' ⟨rfl, q, rfl⟩
    go_wp2_with fail
    go_loopw [4, 5] (fun x i wr => ∃ k : Nat, k ≤ 2 * a.length ∧ i = .int .i64 ((k : Int) + 1) ∧ x = .string (S (potL a k)) ∧ ∃ q, wr = w.drewN q) (fun _ i _ => 2 * a.length + 1 - (intOf i).toNat)
    case atStart => exact ⟨0, by omega, rfl, rfl, _, rfl⟩
    case round =>
      obtain ⟨k, hk, rfl, rfl, q, rfl⟩ := hrel
      by_cases hlt : k < 2 * a.length
      · have f1 : (k : Int) + 1 ≤ 2 * (a.length : Int) := by omega
        have HS := Lib.hid (potL_succ a k)
        have hsz : (S (potL a k)).size ≤ 1000 := by rw [S_size, potL_len]; omega
        go_wp2_with fail
        go_loopw [6, 7] (fun u j wr => ∃ m : Nat, m ≤ a.length ∧ j = .int .i64 m ∧ u = .bool (decide ((k : Int) + 1 ∈ a.take m)) ∧ ∃ q, wr = w.drewN q) (fun _ j _ => a.length - (intOf j).toNat)
        case atStart => exact ⟨0, by omega, rfl, by simp, _, rfl⟩
        case round =>
          obtain ⟨m, hm, rfl, rfl, q, rfl⟩ := hrel
          by_cases hml : m < a.length
          · obtain ⟨b0, o0, rfl, _, hc0⟩ := r0.at_ (by omega)
            have e0 := hc0 m hml
            clear hc0
            by_cases hu : (k : Int) + 1 ∈ a.take m
            · have HN := Lib.hid (show (k : Int) + 1 ∈ a.take (m + 1) from (mem_take_succ hml _).2 (.inl hu))
              simp only [decide_eq_true hu]
              clear hu
              go_wp2_with fail
              go_roundw
              case rel => exact ⟨m + 1, by omega, by go_num, by rw [decide_eq_true HN.out], _, rfl⟩
              case measure => simp [intOf]; omega
            · by_cases he : a[m] = (k : Int) + 1
              · have HN := Lib.hid (show (k : Int) + 1 ∈ a.take (m + 1) from (mem_take_succ hml _).2 (.inr he))
                have f2 : (a[m] == (k : Int) + 1) = true := by simpa using he
                simp only [decide_eq_false hu]
                clear hu he
                go_wp2_with fail
                go_roundw
                case rel => exact ⟨m + 1, by omega, by go_num, by rw [decide_eq_true HN.out], _, rfl⟩
                case measure => simp [intOf]; omega
              · have HN := Lib.hid (show ¬ (k : Int) + 1 ∈ a.take (m + 1) from fun h => ((mem_take_succ hml _).1 h).elim hu he)
                have f2 : (a[m] == (k : Int) + 1) = false := by simpa using he
                simp only [decide_eq_false hu]
                clear hu he
                go_wp2_with fail
                go_roundw
                case rel => exact ⟨m + 1, by omega, by go_num, by rw [decide_eq_false HN.out], _, rfl⟩
                case measure => simp [intOf]; omega
          · have hme : m = a.length := by omega
            subst hme
            rw [List.take_length]
            by_cases hu : (k : Int) + 1 ∈ a
            · have HC := Lib.hid (show S (potL a k) ++ ⟨#[117]⟩ = S (potL a (k + 1)) by rw [S_snoc, HS.out, if_pos hu])
              simp only [decide_eq_true hu]
              clear hu
              go_wp2_with fail
              go_roundw
              case rel => exact ⟨k + 1, by omega, by go_num, by rw [HC.out], _, rfl⟩
              case measure => simp [intOf]; omega
            · have HC := Lib.hid (show S (potL a k) ++ ⟨#[100]⟩ = S (potL a (k + 1)) by rw [S_snoc, HS.out, if_neg hu])
              simp only [decide_eq_false hu]
              clear hu
              go_wp2_with fail
              go_roundw
              case rel => exact ⟨k + 1, by omega, by go_num, by rw [HC.out], _, rfl⟩
              case measure => simp [intOf]; omega
      · have hke : k = 2 * a.length := by omega
        have f1 : ¬ (k : Int) + 1 ≤ 2 * (a.length : Int) := by omega
        go_wp2_with fail
        go_ret2
        exact RetSB.mk HV.out rfl (below_draws _ _)
  · simp only [decide_eq_false hT] at HP0
    have HV := Lib.hid (show potR t = ([], false) by unfold potR; rw [if_neg hT])
    clear hT
    go_enter Try.func24, Try.ntmps24
    go_wp2_with fail
    refine HP0.mono ?_; rintro e w' ⟨rfl, q, rfl⟩
    go_wp2_with fail
    go_ret2
    exact RetSB.mk HV.out rfl (below_draws _ _)
end Go.Proofs.Ytnkkgfeegaiakaa
