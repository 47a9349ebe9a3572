/- Contract of the library's slices.Sort at a short row of numbers that the call owns: sorted by insertion. Condition: at most twelve numbers. -/
import Derived.Test.YtnkkgfeegaiakaaGround
import Derived.Test.YtnkkgfeegaiakaaPlain22
import Derived.Deep.RegionLaw
namespace Go.Proofs.Ytnkkgfeegaiakaa
open Go.RowKit
theorem quiet_left {P : Program} {f : FuncId} {args : Array Value} {w : World} {n : Nat} {v : Value}
    (h : Calls P f args (w.drewN n) fun e w' => e = .returned v ∧ w.drewN n = w') : Calls P f args (w.drewN n) fun e w'' => e = .returned v ∧ ∃ m, w'' = w.drewN m :=
  h.mono fun _ _ ⟨he, hm⟩ => ⟨he, n, hm.symm⟩
theorem isNaN_any (x : Int) (w : World) : Calls Try.prog 255 #[.int .i64 x] w fun e w' => e = .returned (.bool false) ∧ w = w' := by
  have h : (x != x) = false := by simp
  go_enter Try.func255, Try.ntmps255
  go_wp2_with fail
  go_ret
  exact ⟨rfl, rfl⟩
theorem cmpLess_any (x y : Int) (w : World) : Calls Try.prog 264 #[.int .i64 x, .int .i64 y] w fun e w' => e = .returned (.bool (decide (x < y))) ∧ w = w' := by
  go_enter Try.func264, Try.ntmps264
  go_wp2_with (go_at_call 255; refine (isNaN_any _ _).mono ?_; rintro e w' ⟨rfl, rfl⟩)
  go_ret
  exact ⟨ret_bool rfl, rfl⟩
def SomeInt (w : World) (e : Ending) (w' : World) : Prop := ∃ r : Int, e = .returned (.int .i64 r) ∧ w = w'
set_option maxRecDepth 100000 in
theorem bitsLen64_any (n : Nat) (w : World) (hn : n ≤ 12) : Calls Try.prog 254 #[.int .u64 (n : Int)] w (SomeInt w) := by
  have h1 : ¬ (4294967296 : Int) ≤ (n : Int) := by omega
  have h2 : ¬ (65536 : Int) ≤ (n : Int) := by omega
  have h3 : ¬ (256 : Int) ≤ (n : Int) := by omega
  go_enter Try.func254, Try.ntmps254
  go_wp2_with fail
  go_ret
  exact ⟨_, rfl, rfl⟩
theorem bitsLen_any (n : Nat) (w : World) (hn : n ≤ 12) : Calls Try.prog 231 #[.int .u64 (n : Int)] w (SomeInt w) := by
  go_enter Try.func231, Try.ntmps231
  go_wp2_with fail
  refine (bitsLen64_any _ _ hn).mono ?_; rintro e w' ⟨r, rfl, rfl⟩
  go_wp2_with fail
  go_ret
  exact ⟨r, rfl, rfl⟩
set_option maxHeartbeats 1000000 in
theorem isort_any (g cap : Nat) (xs : List Int) (w : World) (base : Nat) (hown : OwI w base (.slice (some ⟨g, 0, none⟩) xs.length cap) xs) (hn : xs.length ≤ 12) :
    Calls Try.prog 258 #[.slice (some ⟨g, 0, none⟩) xs.length cap, .int .i64 0, .int .i64 (xs.length : Int)] w fun e w' => e = .returned (.tuple #[]) ∧ OwI w' base (.slice (some ⟨g, 0, none⟩) xs.length cap) (srt xs xs.length) ∧ w.grownBy w' (some g) := by
  go_enter Try.func258, Try.ntmps258
  go_wp2_with fail
  go_loopw [6] (fun v wr => ∃ i : Nat, 1 ≤ i ∧ (i ≤ xs.length ∨ i = 1) ∧ v = .int .i64 (i : Int) ∧ OwI wr base (.slice (some ⟨g, 0, none⟩) xs.length cap) (srt xs i) ∧ w.grownBy wr (some g)) (fun v _ => xs.length + 1 - (intOf v).toNat)
  case atStart => exact ⟨1, by omega, by omega, rfl, hown, World.grownBy.refl _ _⟩
  case round =>
    clear hown
    obtain ⟨i, h1, hi, rfl, hown, hG⟩ := hrel
    by_cases hlt : i < xs.length
    · have HS := Lib.hid (srt_succ xs i)
      have hsl := srt_len xs i
      go_wp2_with fail
      go_loopw [7] (fun v wr => ∃ (j : Nat) (l : List Int), j ≤ i ∧ v = .int .i64 (j : Int) ∧ OwI wr base (.slice (some ⟨g, 0, none⟩) xs.length cap) l ∧ Hid (l.length = xs.length) ∧ Hid (insL j l = srt xs (i + 1)) ∧ w.grownBy wr (some g)) (fun v _ => (intOf v).toNat)
      case atStart => exact ⟨i, srt xs i, by omega, rfl, hown, hsl, HS.out.symm, hG⟩
      case round =>
        clear hown hG hsl HS
        obtain ⟨j, l, hj, rfl, hown, HL, HI, hG⟩ := hrel
        rcases j with _ | m
        · have HE := Lib.hid (show l = srt xs (i + 1) from HI.out)
          obtain ⟨J, hJ⟩ : ∃ J : Int, J = ((0 : Nat) : Int) := ⟨_, rfl⟩
          rw [← hJ]
          have d0 : decide ((0 : Int) < J) = false := decide_eq_false (by omega)
          clear hJ
          go_wp2_with fail
          go_quiet ((go_at_call 264; exact quiet_left (cmpLess_any _ _ _)))
          go_wp2_with fail
          go_roundw
          case rel => exact ⟨i + 1, by omega, by omega, by go_num, by rw [← HE.out]; exact hown.drewN nq, grown_trans_row hG (grown_draws _ _ _)⟩
          case measure => simp [intOf]; omega
        · have hm1 : m + 1 < l.length := by rw [HL.out]; omega
          have hm0 : m < l.length := by rw [HL.out]; omega
          have c0 := hown.cellAt m hm0
          have c1 := hown.cellAt (m + 1) hm1
          have z0 := hown.frozenAt m
          have z1 := hown.frozenAt (m + 1)
          have hIS : insL (m + 1) l = if l[m + 1] < l[m] then insL m (swp l m) else l := by
            show (if l.getD (m + 1) 0 < l.getD m 0 then insL m (swp l m) else l) = _
            rw [getD_of hm1, getD_of hm0]
          have hSW : swp l m = (l.set (m + 1) l[m]).set m l[m + 1] := by unfold swp; rw [getD_of hm1, getD_of hm0]
          have HIS := Lib.hid hIS
          have HSW := Lib.hid hSW
          clear hIS hSW
          have hs5 := hown.stored (m + 1) l[m]
          have hs6 := hs5.1.stored m l[m + 1]
          generalize hX : l[m + 1] = X at *
          generalize hY : l[m] = Y at *
          clear hX hY
          have HS6 := Lib.hid hs6.1
          have HG6 := Lib.hid (grown_trans_row hs5.2 hs6.2)
          clear hs5 hs6
          have e1 : IntKind.i64.wrap (m : Int) = (m : Int) := IntWalk.i64_in _ (by omega)
          have e2 : ((m : Int) + 1).toNat = m + 1 := by omega
          have e3 : (0 : Int) ≤ (m : Int) + 1 := by omega
          have e4 : (m : Int) + 1 < (xs.length : Int) := by rw [← HL.out]; omega
          have e5 : (m : Int) < (xs.length : Int) := by omega
          have e6 : decide ((0 : Int) < (m : Int) + 1) = true := decide_eq_true (by omega)
          by_cases hXY : X < Y
          · have HN := Lib.hid (show insL m (swp l m) = srt xs (i + 1) by rw [← HI.out, HIS.out, if_pos hXY])
            have dXY : decide (X < Y) = true := decide_eq_true hXY
            rw [show ((m + 1 : Nat) : Int) = (m : Int) + 1 by omega]
            go_wp2_with fail
            go_quiet ((go_at_call 264; exact quiet_left (cmpLess_any _ _ _)))
            go_wp2_with fail
            go_region
            all_goals (
              go_wp2_with fail
              go_roundw
              case rel => exact ⟨m, swp l m, by omega, by go_num, by rw [HSW.out]; exact OwI.drewN HS6.out (nq + 1), (swp_len l m).trans HL.out, HN.out, grown_trans_row hG (grown_trans_row HG6.out (grown_draws _ (nq + 1) _))⟩
              case measure => (simp [intOf]; try omega))
          · have HN := Lib.hid (show l = srt xs (i + 1) by rw [← HI.out, HIS.out, if_neg hXY])
            have dXY : decide (X < Y) = false := decide_eq_false hXY
            rw [show ((m + 1 : Nat) : Int) = (m : Int) + 1 by omega]
            go_wp2_with fail
            go_quiet ((go_at_call 264; exact quiet_left (cmpLess_any _ _ _)))
            go_wp2_with fail
            go_roundw
            case rel => exact ⟨i + 1, by omega, by omega, by go_num, by rw [← HN.out]; exact hown.drewN nq, grown_trans_row hG (grown_draws _ _ _)⟩
            case measure => simp [intOf]; omega
    · have hE : srt xs i = srt xs xs.length := by
        rcases hi with hi | hi
        · rw [show i = xs.length by omega]
        · subst hi
          rcases Nat.eq_zero_or_pos xs.length with h | h
          · rw [h]; rfl
          · rw [show xs.length = 1 by omega]
      have HE := Lib.hid hE
      clear hE
      go_wp2_with fail
      go_end0
      exact ⟨rfl, by rw [← HE.out]; exact hown, hG⟩
theorem pdq_any (g cap L : Nat) (r : Int) (xs : List Int) (w : World) (base : Nat) (hown : OwI w base (.slice (some ⟨g, 0, none⟩) xs.length cap) xs) (hn : xs.length ≤ 12) (hL : L = xs.length) :
    Calls Try.prog 243 #[.slice (some ⟨g, 0, none⟩) xs.length cap, .int .i64 0, .int .i64 (xs.length : Int), .int .i64 r] w fun e w' => e = .returned (.tuple #[]) ∧ OwI w' base (.slice (some ⟨g, 0, none⟩) xs.length cap) (srt xs xs.length) ∧ w.grownBy w' (some g) := by
  have h12 : (xs.length : Int) ≤ 12 := by omega
  have HI := isort_any g cap xs w base hown hn
  clear hown hL
  go_enter Try.func243, Try.ntmps243
  go_wp2_with fail
  refine wp_loop_rounds 1 ?_
  rw [rounds_succ]
  go_wp2_with fail
  refine HI.mono ?_; rintro e w' ⟨rfl, h1, h2⟩
  go_wp2_with fail
  refine bodyPost_ret (results_none rfl _ _ _) rfl ?_
  exact ⟨rfl, h1, h2⟩
theorem sortInts_any (g cap : Nat) (xs : List Int) (w : World) (base : Nat) (hown : OwI w base (.slice (some ⟨g, 0, none⟩) xs.length cap) xs) (hn : xs.length ≤ 12) :
    Calls Try.prog 215 #[.slice (some ⟨g, 0, none⟩) xs.length cap] w fun e w' => e = .returned (.tuple #[]) ∧ OwI w' base (.slice (some ⟨g, 0, none⟩) xs.length cap) (srt xs xs.length) ∧ w.grownBy w' (some g) := by
  have HI := fun r => pdq_any g cap xs.length r xs w base hown hn rfl
  clear hown
  go_enter Try.func215, Try.ntmps215
  go_wp2_with fail
  refine (bitsLen_any _ _ hn).mono ?_; rintro e w' ⟨r, rfl, rfl⟩
  go_wp2_with fail
  refine (HI r).mono ?_; rintro e w' ⟨rfl, h1, h2⟩
  go_wp2_with fail
  go_end0
  exact ⟨rfl, h1, h2⟩
theorem isort0_any (A : Option Addr) (c : Nat) (w : World) :
    Calls Try.prog 258 #[.slice A 0 c, .int .i64 0, .int .i64 0] w fun e w' => e = .returned (.tuple #[]) ∧ w = w' := by
  go_enter Try.func258, Try.ntmps258
  go_wp2_with fail
  refine wp_loop_rounds 1 ?_
  rw [rounds_succ]
  go_wp2_with fail
  go_end0
  exact ⟨rfl, rfl⟩
theorem pdq0_any (A : Option Addr) (c : Nat) (r : Int) (w : World) :
    Calls Try.prog 243 #[.slice A 0 c, .int .i64 0, .int .i64 0, .int .i64 r] w fun e w' => e = .returned (.tuple #[]) ∧ w = w' := by
  go_enter Try.func243, Try.ntmps243
  go_wp2_with fail
  refine wp_loop_rounds 1 ?_
  rw [rounds_succ]
  go_wp2_with fail
  refine (isort0_any _ _ _).mono ?_; rintro e w' ⟨rfl, rfl⟩
  go_wp2_with fail
  refine bodyPost_ret (results_none rfl _ _ _) rfl ?_
  exact ⟨rfl, rfl⟩
theorem sort0_any (A : Option Addr) (c : Nat) (w : World) :
    Calls Try.prog 215 #[.slice A 0 c] w fun e w' => e = .returned (.tuple #[]) ∧ w = w' := by
  go_enter Try.func215, Try.ntmps215
  go_wp2_with fail
  refine (bitsLen_any 0 _ (by omega)).mono ?_; rintro e w' ⟨r, rfl, rfl⟩
  go_wp2_with fail
  refine (pdq0_any _ _ r _).mono ?_; rintro e w' ⟨rfl, rfl⟩
  go_wp2_with fail
  go_end0
  exact ⟨rfl, rfl⟩
end Go.Proofs.Ytnkkgfeegaiakaa
