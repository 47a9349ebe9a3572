/- Contracts of IsTriangulation, the program's and the reference's: both say whether the rows are the diagonals of a triangulation, in order. No condition. -/
import Derived.Test.YtnkkgfeegaiakaaTriBase
import Derived.Test.YtnkkgfeegaiakaaGround
namespace Go.Proofs.Ytnkkgfeegaiakaa
open Go.RowKit
def TriOk (n : Int) (d : List (List Int)) (i : Nat) : Prop := diagB n (rowOf d i) = true ∧ (0 < i → cmpL (rowOf d (i - 1)) (rowOf d i) < 0) ∧ ∀ k, k < i → crB (rowOf d k) (rowOf d i) = false
/-- the diagonals of a triangulation, in order -/
def TriP (n : Int) (d : List (List Int)) : Prop := (2 ≤ n ∧ n ≤ 10) ∧ (d.length : Int) = max 0 (n - 3) ∧ ∀ i, i < d.length → TriOk n d i
instance (n : Int) (d : List (List Int)) (i : Nat) : Decidable (TriOk n d i) := by unfold TriOk; infer_instance
instance (n : Int) (d : List (List Int)) : Decidable (TriP n d) := by unfold TriP; infer_instance
theorem TriP.bad {n : Int} {d : List (List Int)} {k : Nat} (hk : k < d.length) (h : ¬ TriOk n d k) : decide (TriP n d) = false := decide_eq_false fun q => h (q.2.2 k hk)
theorem diag_two {n : Int} {x : List Int} (h : diagB n x = true) : ∃ a b, x = [a, b] ∧ (0 ≤ a ∧ a ≤ n - 1) ∧ (0 ≤ b ∧ b ≤ n - 1) ∧ 2 ≤ b - a ∧ ¬ (a = 0 ∧ b = n - 1) := by
  unfold diagB at h
  simp only [Bool.and_eq_true, decide_eq_true_eq, Bool.not_eq_true', Bool.and_eq_false_iff, decide_eq_false_iff_not] at h
  obtain ⟨h1, h2, h3, h4, h5⟩ := h
  obtain ⟨a, b, rfl⟩ := two_of h1
  simp only [List.getD_cons_zero, List.getD_cons_succ] at h2 h3 h4 h5
  exact ⟨a, b, rfl, h2, h3, h4, by omega⟩
theorem RdSS.two {w : World} {A : Option Addr} {m c : Nat} {d : List (List Int)} (h : RdSS w (.slice A m c) d) {k : Nat} (hk : k < d.length) {a b : Int} (hr : rowOf d k = [a, b]) :
    ∃ bl o b1 o1 c1, A = some ⟨bl, o, none⟩ ∧ w.cell? ⟨bl, o + k, none⟩ = some (.slice (some ⟨b1, o1, none⟩) 2 c1) ∧ 2 ≤ c1 ∧ w.cell? ⟨b1, o1, none⟩ = some (.int .i64 a) ∧ w.cell? ⟨b1, o1 + 1, none⟩ = some (.int .i64 b) ∧ RdI w (.slice (some ⟨b1, o1, none⟩) 2 c1) [a, b] := by
  obtain ⟨bl, o, rfl, _, hcl⟩ := h.at_ (by omega)
  obtain ⟨u, hu, hru⟩ := hcl k hk
  rw [← rowOf_get hk, hr] at hru
  obtain ⟨b1, o1, c1, rfl, hc, h0, h1⟩ := hru.two
  exact ⟨bl, o, b1, o1, c1, rfl, hu, hc, h0, h1, hru⟩
theorem RdSS.row {w : World} {A : Option Addr} {m c : Nat} {d : List (List Int)} (h : RdSS w (.slice A m c) d) {k : Nat} (hk : k < d.length) :
    ∃ bl o u, A = some ⟨bl, o, none⟩ ∧ w.cell? ⟨bl, o + k, none⟩ = some u ∧ RdI w u (rowOf d k) := by
  obtain ⟨bl, o, rfl, _, hcl⟩ := h.at_ (by omega)
  obtain ⟨u, hu, hru⟩ := hcl k hk
  rw [← rowOf_get hk] at hru
  exact ⟨bl, o, u, rfl, hu, hru⟩
theorem quiet_two {P : Program} {f : FuncId} {args : Array Value} {w : World} {n : Nat} {v : Value}
    (h : Calls P f args (w.drewN n) fun e w' => e = .returned v ∧ ∃ q, w' = (w.drewN n).drewN q) : Calls P f args (w.drewN n) fun e w'' => e = .returned v ∧ ∃ m, w'' = w.drewN m :=
  h.mono fun _ _ ⟨he, q, hq⟩ => ⟨he, n + q, by rw [hq, drewN_two]⟩
set_option maxRecDepth 8000 in
set_option maxHeartbeats 2400000 in
theorem implTri_main (n : Int) (v : Value) (d : List (List Int)) (w : World) (hv : RdSS w v d) (hr : 2 ≤ n ∧ n ≤ 10) (h3 : ¬ n ≤ 3) (hl : (d.length : Int) = n - 3) :
    Calls Try.prog 149 #[.int .i64 n, v] w fun e w' => e = .returned (.bool (decide (TriP n d))) ∧ ∃ q, w' = w.drewN q := by
  obtain ⟨A, c0, rfl, hc, hll, _⟩ := id hv
  have HV := Lib.hid hv
  have HL := Lib.hid hl
  have hd7 : d.length ≤ 7 := by omega
  have f1 : ((d.length : Int) != n - 3) = false := by simp [hl]
  have hm : 0 < n - 3 := by omega
  clear hv hl
  go_enter Try.func149, Try.ntmps149
  go_wp2_with (go_at_call 178; refine (within_yes _ _ _ _ (by omega) (by omega)).mono ?_; rintro e w' ⟨rfl, rfl⟩)
  go_loopw [22] (fun i wr => ∃ k : Nat, k ≤ d.length ∧ i = .int .i64 (k : Int) ∧ Hid (∀ j, j < k → TriOk n d j) ∧ ∃ q, wr = w.drewN q) (fun i _ => d.length - (intOf i).toNat)
  case atStart => exact ⟨0, by omega, rfl, Lib.hid (fun j h => absurd h (by omega)), 0, rfl⟩
  case round =>
    obtain ⟨k, hk, rfl, HO, q, rfl⟩ := hrel
    by_cases hlt : k < d.length
    · have hki : (k : Int) < (d.length : Int) := by omega
      obtain ⟨bl, o, u, rfl, cu, ru⟩ := HV.out.row hlt
      obtain ⟨uA, uc, rfl, _⟩ := id ru
      by_cases hD : diagB n (rowOf d k) = true
      · obtain ⟨c, g, hx, _, _, _, _⟩ := diag_two hD
        obtain ⟨bl', o', b1, o1, c1, he, cu', hc1, d0, d1, rx⟩ := HV.out.two hlt hx
        injection he with he
        injection he with he1 he2
        subst he1
        subst he2
        have hDc := isDiagonal_any n _ _ (w.drewN q) hr rx
        rw [show diagB n [c, g] = true from by rw [← hx]; exact hD] at hDc
        have HD := Lib.hid hDc
        have HRK := Lib.hid hx
        have HDD := Lib.hid hD
        clear cu ru hx hD hDc
        rcases Nat.eq_zero_or_pos k with hk0 | hk0
        · have HOK := Lib.hid (show TriOk n d k from ⟨HDD.out, fun h => by omega, fun j hj => by omega⟩)
          have fk : decide ((0 : Int) < (k : Int)) = false := decide_eq_false (by omega)
          have hkn : ¬ (0 : Int) < (k : Int) := by omega
          have HK0 := Lib.hid hk0
          clear hk0
          go_wp2_with (go_at_call 223; refine HD.out.mono ?_; rintro e w' ⟨rfl, q2, rfl⟩; rw [drewN_two])
          refine wp_loop_rounds 1 ?_
          rw [rounds_succ]
          go_wp2_with fail
          go_roundw
          case rel => exact ⟨k + 1, by omega, by go_num, fun j hj => by
            rcases Nat.lt_or_ge j k with h | h
            · exact HO.out j h
            · obtain rfl : j = k := by omega
              exact HOK.out, _, rfl⟩
          case measure => simp [intOf]; omega
        · obtain ⟨c', g', hx', _, _, _, _⟩ := diag_two (HO.out (k - 1) (by omega)).1
          obtain ⟨bl', o', b2, o2, c2, he, cp, hc2, e0, e1, rp⟩ := HV.out.two (show k - 1 < d.length by omega) hx'
          injection he with he
          injection he with he1 he2
          subst he1
          subst he2
          have HRP := Lib.hid hx'
          have hk1 : ((k : Int) - 1) = ((k - 1 : Nat) : Int) := by omega
          have hk1l : ((k - 1 : Nat) : Int) < (d.length : Int) := by omega
          have hkp : (0 : Int) < (k : Int) := by omega
          have HC := Lib.hid (fun q2 : Nat => slicesCompare_any _ _ [c', g'] [c, g] (w.drewN q2) rp rx)
          clear hx'
          by_cases hC : cmpL [c', g'] [c, g] < 0
          · have hCn : ¬ (0 : Int) ≤ cmpL [c', g'] [c, g] := by omega
            have HCC := Lib.hid hC
            have HKP := Lib.hid hk0
            clear hC hk0
            go_wp2_with (first | (go_at_call 223; refine HD.out.mono ?_; rintro e w' ⟨rfl, q2, rfl⟩; rw [drewN_two]) | (go_at_call 166; refine (HC.out _).mono ?_; rintro e w' ⟨rfl, rfl⟩))
            go_loopw [49] (fun i wr => ∃ m : Nat, m ≤ k ∧ i = .int .i64 (m : Int) ∧ Hid (∀ j, j < m → crB (rowOf d j) (rowOf d k) = false) ∧ ∃ q, wr = w.drewN q) (fun i _ => k - (intOf i).toNat)
            case atStart => exact ⟨0, by omega, rfl, Lib.hid (fun j h => absurd h (by omega)), _, rfl⟩
            case round =>
              obtain ⟨m, hm2, rfl, HX, q3, rfl⟩ := hrel
              by_cases hml : m < k
              · have hmi : (m : Int) < (k : Int) := by omega
                obtain ⟨a, b, hy, _, _, _, _⟩ := diag_two (HO.out m hml).1
                obtain ⟨bl', o', b3, o3, c3, he, cm, hc3, g0, g1, _⟩ := HV.out.two (show m < d.length by omega) hy
                injection he with he
                injection he with he1 he2
                subst he1
                subst he2
                have HRM := Lib.hid hy
                clear hy cp e0 e1 rp HRP cu' HC
                by_cases h1 : a < c
                · by_cases h2 : c < b
                  · by_cases h3 : b < g
                    · have fac : decide (a < c) = true := decide_eq_true (by omega)
                      have fcb : decide (c < b) = true := decide_eq_true (by omega)
                      have fbg : decide (b < g) = true := decide_eq_true (by omega)
                      have HN := Lib.hid (TriP.bad (n := n) hlt (fun q => by have := q.2.2 m hml; rw [HRM.out, HRK.out] at this; simp [crB, crN, List.getD] at this; omega))
                      clear h1 h2 h3
                      go_wp2_with fail
                      go_quiet (fail)
                      go_wp2_with fail
                      go_ret
                      exact ⟨ret_bool HN.out.symm, _, drewN_two _ _ _⟩
                    · have fac : decide (a < c) = true := decide_eq_true (by omega)
                      have fcb : decide (c < b) = true := decide_eq_true (by omega)
                      have fbg : decide (b < g) = false := decide_eq_false (by omega)
                      have fca : decide (c < a) = false := decide_eq_false (by omega)
                      have HN := Lib.hid (show ∀ j, j < m + 1 → crB (rowOf d j) (rowOf d k) = false from fun j hj => by
                        rcases Nat.lt_or_ge j m with h | h
                        · exact HX.out j h
                        · obtain rfl : j = m := by omega
                          rw [HRM.out, HRK.out]; simp [crB, crN, List.getD]; omega)
                      clear h1 h2 h3
                      go_wp2_with fail
                      go_quiet (fail)
                      go_wp2_with fail
                      go_roundw
                      case rel => exact ⟨m + 1, by omega, by go_num, HN, _, rfl⟩
                      case measure => simp [intOf]; omega
                  · have fac : decide (a < c) = true := decide_eq_true (by omega)
                    have fcb : decide (c < b) = false := decide_eq_false (by omega)
                    have fca : decide (c < a) = false := decide_eq_false (by omega)
                    have HN := Lib.hid (show ∀ j, j < m + 1 → crB (rowOf d j) (rowOf d k) = false from fun j hj => by
                      rcases Nat.lt_or_ge j m with h | h
                      · exact HX.out j h
                      · obtain rfl : j = m := by omega
                        rw [HRM.out, HRK.out]; simp [crB, crN, List.getD]; omega)
                    clear h1 h2
                    go_wp2_with fail
                    go_quiet (fail)
                    go_wp2_with fail
                    go_roundw
                    case rel => exact ⟨m + 1, by omega, by go_num, HN, _, rfl⟩
                    case measure => simp [intOf]; omega
                · by_cases h4 : c < a
                  · by_cases h2 : a < g
                    · by_cases h3 : g < b
                      · have fac : decide (a < c) = false := decide_eq_false (by omega)
                        have fca : decide (c < a) = true := decide_eq_true (by omega)
                        have fag : decide (a < g) = true := decide_eq_true (by omega)
                        have fgb : decide (g < b) = true := decide_eq_true (by omega)
                        have HN := Lib.hid (TriP.bad (n := n) hlt (fun q => by have := q.2.2 m hml; rw [HRM.out, HRK.out] at this; simp [crB, crN, List.getD] at this; omega))
                        clear h1 h4 h2 h3
                        go_wp2_with fail
                        go_quiet (fail)
                        go_wp2_with fail
                        go_ret
                        exact ⟨ret_bool HN.out.symm, _, drewN_two _ _ _⟩
                      · have fac : decide (a < c) = false := decide_eq_false (by omega)
                        have fca : decide (c < a) = true := decide_eq_true (by omega)
                        have fag : decide (a < g) = true := decide_eq_true (by omega)
                        have fgb : decide (g < b) = false := decide_eq_false (by omega)
                        have HN := Lib.hid (show ∀ j, j < m + 1 → crB (rowOf d j) (rowOf d k) = false from fun j hj => by
                          rcases Nat.lt_or_ge j m with h | h
                          · exact HX.out j h
                          · obtain rfl : j = m := by omega
                            rw [HRM.out, HRK.out]; simp [crB, crN, List.getD]; omega)
                        clear h1 h4 h2 h3
                        go_wp2_with fail
                        go_quiet (fail)
                        go_wp2_with fail
                        go_roundw
                        case rel => exact ⟨m + 1, by omega, by go_num, HN, _, rfl⟩
                        case measure => simp [intOf]; omega
                    · have fac : decide (a < c) = false := decide_eq_false (by omega)
                      have fca : decide (c < a) = true := decide_eq_true (by omega)
                      have fag : decide (a < g) = false := decide_eq_false (by omega)
                      have HN := Lib.hid (show ∀ j, j < m + 1 → crB (rowOf d j) (rowOf d k) = false from fun j hj => by
                        rcases Nat.lt_or_ge j m with h | h
                        · exact HX.out j h
                        · obtain rfl : j = m := by omega
                          rw [HRM.out, HRK.out]; simp [crB, crN, List.getD]; omega)
                      clear h1 h4 h2
                      go_wp2_with fail
                      go_quiet (fail)
                      go_wp2_with fail
                      go_roundw
                      case rel => exact ⟨m + 1, by omega, by go_num, HN, _, rfl⟩
                      case measure => simp [intOf]; omega
                  · have fac : decide (a < c) = false := decide_eq_false (by omega)
                    have fca : decide (c < a) = false := decide_eq_false (by omega)
                    have HN := Lib.hid (show ∀ j, j < m + 1 → crB (rowOf d j) (rowOf d k) = false from fun j hj => by
                      rcases Nat.lt_or_ge j m with h | h
                      · exact HX.out j h
                      · obtain rfl : j = m := by omega
                        rw [HRM.out, HRK.out]; simp [crB, crN, List.getD]; omega)
                    clear h1 h4
                    go_wp2_with fail
                    go_quiet (fail)
                    go_wp2_with fail
                    go_roundw
                    case rel => exact ⟨m + 1, by omega, by go_num, HN, _, rfl⟩
                    case measure => simp [intOf]; omega
              · have hme : m = k := by omega
                have HOK := Lib.hid (show TriOk n d k from ⟨HDD.out, fun _ => by rw [HRP.out, HRK.out]; exact HCC.out, fun j hj => HX.out j (by omega)⟩)
                have hmi : ¬ (m : Int) < (k : Int) := by omega
                go_wp2_with fail
                go_roundw
                case rel => exact ⟨k + 1, by omega, by go_num, fun j hj => by
                  rcases Nat.lt_or_ge j k with h | h
                  · exact HO.out j h
                  · obtain rfl : j = k := by omega
                    exact HOK.out, _, rfl⟩
                case measure => simp [intOf]; omega
          · have hCn : (0 : Int) ≤ cmpL [c', g'] [c, g] := by omega
            have HN := Lib.hid (TriP.bad (n := n) hlt (fun q => by have := q.2.1 hk0; rw [HRP.out, HRK.out] at this; exact hC this))
            clear hC hk0
            go_wp2_with (first | (go_at_call 223; refine HD.out.mono ?_; rintro e w' ⟨rfl, q2, rfl⟩; rw [drewN_two]) | (go_at_call 166; refine (HC.out _).mono ?_; rintro e w' ⟨rfl, rfl⟩))
            go_ret
            exact ⟨ret_bool HN.out.symm, _, rfl⟩
      · have hDf : diagB n (rowOf d k) = false := by simpa using hD
        have HD := Lib.hid (isDiagonal_any n _ _ (w.drewN q) hr ru)
        rw [hDf] at HD
        have HN := Lib.hid (TriP.bad (n := n) hlt (fun q => hD q.1))
        clear hD hDf
        go_wp2_with (go_at_call 223; refine HD.out.mono ?_; rintro e w' ⟨rfl, q2, rfl⟩; rw [drewN_two])
        go_ret
        exact ⟨ret_bool HN.out.symm, _, rfl⟩
    · have HN := Lib.hid (show decide (TriP n d) = true from decide_eq_true ⟨hr, by rw [HL.out]; omega, fun i hi => HO.out i (by omega)⟩)
      have hki : ¬ (k : Int) < (d.length : Int) := by omega
      go_wp2_with fail
      go_ret
      exact ⟨ret_bool HN.out.symm, q, rfl⟩
set_option maxHeartbeats 1600000 in
theorem implIsTriangulation_any (n : Int) (v : Value) (d : List (List Int)) (w : World) (hv : RdSS w v d) (_h64 : I64 n) :
    Calls Try.prog 149 #[.int .i64 n, v] w fun e w' => e = .returned (.bool (decide (TriP n d))) ∧ ∃ q, w' = w.drewN q := by
  by_cases hr : 2 ≤ n ∧ n ≤ 10
  · by_cases h3 : n ≤ 3
    · by_cases hl : d.length = 0
      · have HN := Lib.hid (show decide (TriP n d) = true from decide_eq_true ⟨hr, by omega, fun i hi => by omega⟩)
        obtain ⟨A, c0, rfl, hc, hll, _⟩ := id hv
        have f1 : ((d.length : Int) != 0) = false := by simp [hl]
        have hm : n - 3 ≤ 0 := by omega
        have hd0 : ¬ (0 : Int) < (d.length : Int) := by omega
        clear hv hl
        go_enter Try.func149, Try.ntmps149
        go_wp2_with (go_at_call 178; refine (within_yes _ _ _ _ (by omega) (by omega)).mono ?_; rintro e w' ⟨rfl, rfl⟩)
        refine wp_loop_rounds 1 ?_
        rw [rounds_succ]
        go_wp2_with fail
        go_ret
        exact ⟨ret_bool HN.out.symm, 0, rfl⟩
      · have HN := Lib.hid (show decide (TriP n d) = false from decide_eq_false (fun q => by have := q.2.1; omega))
        obtain ⟨A, c0, rfl, hc, hll, _⟩ := id hv
        have f1 : ((d.length : Int) != 0) = true := bne_iff_ne.2 (by omega)
        have hm : n - 3 ≤ 0 := by omega
        clear hv hl
        go_enter Try.func149, Try.ntmps149
        go_wp2_with (go_at_call 178; refine (within_yes _ _ _ _ (by omega) (by omega)).mono ?_; rintro e w' ⟨rfl, rfl⟩)
        go_ret
        exact ⟨ret_bool HN.out.symm, 0, rfl⟩
    · by_cases hl : (d.length : Int) = n - 3
      · exact implTri_main n v d w hv hr h3 hl
      · have HN := Lib.hid (show decide (TriP n d) = false from decide_eq_false (fun q => by have := q.2.1; omega))
        obtain ⟨A, c0, rfl, hc, hll, _⟩ := id hv
        have f1 : ((d.length : Int) != n - 3) = true := bne_iff_ne.2 hl
        have hm : 0 < n - 3 := by omega
        clear hv hl
        go_enter Try.func149, Try.ntmps149
        go_wp2_with (go_at_call 178; refine (within_yes _ _ _ _ (by omega) (by omega)).mono ?_; rintro e w' ⟨rfl, rfl⟩)
        go_ret
        exact ⟨ret_bool HN.out.symm, 0, rfl⟩
  · have HN := Lib.hid (show decide (TriP n d) = false from decide_eq_false (fun q => hr q.1))
    obtain ⟨A, c0, rfl, hc, hll, _⟩ := id hv
    clear hv
    go_enter Try.func149, Try.ntmps149
    go_wp2_with (go_at_call 178; refine (within_no _ _ _ _ hr).mono ?_; rintro e w' ⟨rfl, rfl⟩)
    go_ret
    exact ⟨ret_bool HN.out.symm, 0, rfl⟩
end Go.Proofs.Ytnkkgfeegaiakaa
