/- Contract of the reference's IsTriangulation: whether the rows are the diagonals of a triangulation, in order. No condition. -/
import Derived.Test.YtnkkgfeegaiakaaTri
namespace Go.Proofs.Ytnkkgfeegaiakaa
open Go.RowKit
theorem quiet_lq {P : Program} {f : FuncId} {args : Array Value} {w : World} {q n : Nat} {v : Value}
    (h : Calls P f args (w.drewN (q + n)) fun e w' => e = .returned v ∧ w.drewN (q + n) = w') : Calls P f args (w.drewN (q + n)) fun e w'' => e = .returned v ∧ ∃ m, w'' = w.drewN (q + m) :=
  h.mono fun _ _ ⟨he, hm⟩ => ⟨he, n, hm.symm⟩
theorem quiet_tq {P : Program} {f : FuncId} {args : Array Value} {w : World} {q n : Nat} {v : Value}
    (h : Calls P f args (w.drewN (q + n)) fun e w' => e = .returned v ∧ ∃ k, w' = (w.drewN (q + n)).drewN k) : Calls P f args (w.drewN (q + n)) fun e w'' => e = .returned v ∧ ∃ m, w'' = w.drewN (q + m) :=
  h.mono fun _ _ ⟨he, k, hk⟩ => ⟨he, n + k, by rw [hk, drewN_two, Nat.add_assoc]⟩
set_option maxRecDepth 8000 in
set_option maxHeartbeats 6400000 in
theorem specTri_main (n : Int) (v : Value) (d : List (List Int)) (w : World) (hv : RdSS w v d) (hr : 2 ≤ n ∧ n ≤ 10) (h3 : ¬ n ≤ 3) (hl : (d.length : Int) = n - 3) :
    Calls Try.prog 171 #[.int .i64 n, v] w fun e w' => e = .returned (.bool (decide (TriP n d))) ∧ ∃ q, w' = w.drewN q := by
  obtain ⟨A, c0, rfl, hc, hll, _⟩ := id hv
  have HV := Lib.hid hv
  have HL := Lib.hid hl
  have hd7 : d.length ≤ 7 := by omega
  have f1 : ((d.length : Int) != n - 3) = false := by simp [hl]
  have hm : 0 < n - 3 := by omega
  have en : IntKind.i64.wrap (n - 1) = n - 1 := IntWalk.i64_in _ (by omega)
  clear hv hl
  go_enter Try.func171, Try.ntmps171
  go_wp2_with (go_at_call 185; refine (l1In_yes _ _ _ _ (by omega) (by omega)).mono ?_; rintro e w' ⟨rfl, rfl⟩)
  go_loopw [5] (fun i wr => ∃ k : Nat, k ≤ d.length ∧ i = .int .i64 (k : Int) ∧ Hid (∀ j, j < k → TriOk n d j) ∧ ∃ q, wr = w.drewN q) (fun i _ => d.length - (intOf i).toNat)
  case atStart => exact ⟨0, by omega, rfl, Lib.hid (fun j h => absurd h (by omega)), 0, rfl⟩
  case round =>
    obtain ⟨k, hk, rfl, HO, q, rfl⟩ := hrel
    by_cases hlt : k < d.length
    · have hki : (k : Int) < (d.length : Int) := by omega
      by_cases h2 : (rowOf d k).length = 2
      · obtain ⟨c, g, hx⟩ := two_of h2
        obtain ⟨bl, o, b1, o1, c1, rfl, cu, hc1, d0, d1, rx⟩ := HV.out.two hlt hx
        have HRK := Lib.hid hx
        clear hx h2
        by_cases ha : 0 ≤ c ∧ c ≤ n - 1
        · have ec2 : IntKind.i64.wrap (c + 2) = c + 2 := IntWalk.i64_in _ (by omega)
          by_cases hb : c + 2 ≤ g ∧ g ≤ n - 1
          · by_cases h0 : c = 0
            · by_cases h1 : g = n - 1
              · have e1 : (c == 0) = true := beq_iff_eq.2 h0
                have e2 : (g == n - 1) = true := beq_iff_eq.2 h1
                have HH := Lib.hid (And.intro h0 h1)
                clear h0 h1
                have HN := Lib.hid (TriP.bad (n := n) hlt (fun q => by obtain ⟨c2, g2, e2, q1, q2, q3, q4⟩ := diag_two q.1; rw [HRK.out] at e2; injection e2 with e3 e4; injection e4 with e4 _; subst e3; subst e4; exact q4 HH.out))
                clear HO
                go_wp2_with fail
                go_quiet (first | (go_at_call 185; exact quiet_lq (l1In_yes _ _ _ _ (by omega) (by omega))) | (go_at_call 185; exact quiet_lq (l1In_no _ _ _ _ (by omega))))
                go_wp2_with fail
                go_ret
                exact ⟨ret_bool HN.out.symm, _, drewN_two _ _ _⟩
              · have HDD := Lib.hid (show diagB n (rowOf d k) = true by rw [HRK.out]; unfold diagB; simp [List.getD]; omega)
                have e1 : (c == 0) = true := beq_iff_eq.2 h0
                have e2 : (g == n - 1) = false := beq_eq_false_iff_ne.2 h1
                clear h0 h1
                go_wp2_with fail
                go_quiet (first | (go_at_call 185; exact quiet_lq (l1In_yes _ _ _ _ (by omega) (by omega))) | (go_at_call 185; exact quiet_lq (l1In_no _ _ _ _ (by omega))))
                rcases Nat.eq_zero_or_pos k with hk0 | hk0
                · have HOK := Lib.hid (show TriOk n d k from ⟨HDD.out, fun h => by omega, fun j hj => by omega⟩)
                  have fk : decide ((0 : Int) < (k : Int)) = false := decide_eq_false (by omega)
                  have hkn : (k : Int) ≤ 0 := by omega
                  have fkn : decide (0 < k) = false := decide_eq_false (by omega)
                  clear hk0
                  go_wp2_with fail
                  go_quiet (fail)
                  go_wp2_with fail
                  refine wp_loop_rounds 1 ?_
                  rw [rounds_succ]
                  go_wp2_with fail
                  go_roundw
                  case rel => exact ⟨k + 1, by omega, by go_num, fun j hj => by
                    rcases Nat.lt_or_ge j k with h | h
                    · exact HO.out j h
                    · obtain rfl : j = k := by omega
                      exact HOK.out, _, rfl⟩
                  case measure => simp [intOf]; omega
                · obtain ⟨c', g', hx', _, _, _, _⟩ := diag_two (HO.out (k - 1) (by omega)).1
                  obtain ⟨bl', o', b2, o2, c2, he, cp, hc2, e0, e1, rp⟩ := HV.out.two (show k - 1 < d.length by omega) hx'
                  injection he with he
                  injection he with he1 he2
                  subst he1
                  subst he2
                  have HRP := Lib.hid hx'
                  have hk1 : ((k : Int) - 1) = ((k - 1 : Nat) : Int) := by omega
                  have ek1 : IntKind.i64.wrap ((k : Int) - 1) = ((k - 1 : Nat) : Int) := by rw [IntWalk.i64_in _ (by omega)]; exact hk1
                  have hk1l : ((k - 1 : Nat) : Int) < (d.length : Int) := by omega
                  have hk10 : (0 : Int) ≤ ((k - 1 : Nat) : Int) := by omega
                  have hkp : (0 : Int) < (k : Int) := by omega
                  have fkp : decide ((0 : Int) < (k : Int)) = true := decide_eq_true hkp
                  have fkq : decide (0 < k) = true := decide_eq_true hk0
                  have HC := Lib.hid (fun q2 : Nat => l7Before_any c' g' c g _ _ (w.drewN q2) rp rx)
                  clear hx'
                  by_cases hC : cmpL [c', g'] [c, g] < 0
                  · rw [decide_eq_true hC] at HC
                    have HCC := Lib.hid hC
                    have HKP := Lib.hid hk0
                    clear hC hk0
                    go_wp2_with fail
                    go_quiet ((go_at_call 233; exact quiet_tq (HC.out _)))
                    go_wp2_with fail
                    go_loopw [6] (fun i wr => ∃ m : Nat, m ≤ k ∧ i = .int .i64 (m : Int) ∧ Hid (∀ j, j < m → crB (rowOf d j) (rowOf d k) = false) ∧ ∃ q, wr = w.drewN q) (fun i _ => k - (intOf i).toNat)
                    case atStart => exact ⟨0, by omega, rfl, Lib.hid (fun j h => absurd h (by omega)), _, by first | rfl | exact drewN_two _ _ _⟩
                    case round =>
                      obtain ⟨m, hm2, rfl, HX, q3, rfl⟩ := hrel
                      by_cases hml : m < k
                      · have hmi : (m : Int) < (k : Int) := by omega
                        have hmdi : (m : Int) < (d.length : Int) := by omega
                        obtain ⟨a, b, hy, _, _, _, _⟩ := diag_two (HO.out m hml).1
                        obtain ⟨bl', o', b3, o3, c3, he, cm, hc3, g0, g1, ry⟩ := HV.out.two (show m < d.length by omega) hy
                        injection he with he
                        injection he with he1 he2
                        subst he1
                        subst he2
                        have HRM := Lib.hid hy
                        have hX := fun q2 : Nat => l7Crosses_any a b c g _ _ (w.drewN q2) ry rx
                        have HXX := Lib.hid (show crB (rowOf d m) (rowOf d k) = crN a b c g by rw [HRM.out, HRK.out]; rfl)
                        clear hy cp e0 e1 rp HRP HC
                        by_cases hcr : crN a b c g = true
                        · rw [hcr] at hX
                          have HX3 := Lib.hid hX
                          have HN := Lib.hid (TriP.bad (n := n) hlt (fun q => by have := q.2.2 m hml; rw [HXX.out, hcr] at this; cases this))
                          clear hX hcr
                          go_wp2_with fail
                          go_quiet ((go_at_call 234; exact quiet_tq (HX3.out _)))
                          go_wp2_with fail
                          go_ret
                          exact ⟨ret_bool HN.out.symm, _, drewN_two _ _ _⟩
                        · have hcf : crN a b c g = false := by simpa using hcr
                          rw [hcf] at hX
                          have HX3 := Lib.hid hX
                          have HN := Lib.hid (show ∀ j, j < m + 1 → crB (rowOf d j) (rowOf d k) = false from fun j hj => by
                            rcases Nat.lt_or_ge j m with h | h
                            · exact HX.out j h
                            · obtain rfl : j = m := by omega
                              rw [HXX.out, hcf])
                          clear hX hcr hcf
                          go_wp2_with fail
                          go_quiet ((go_at_call 234; exact quiet_tq (HX3.out _)))
                          go_wp2_with fail
                          go_roundw
                          case rel => exact ⟨m + 1, by omega, by go_num, HN, _, rfl⟩
                          case measure => simp [intOf]; omega
                      · have hme : m = k := by omega
                        have HOK := Lib.hid (show TriOk n d k from ⟨HDD.out, fun _ => by rw [HRP.out, HRK.out]; exact HCC.out, fun j hj => HX.out j (by omega)⟩)
                        have hmi : ¬ (m : Int) < (k : Int) := by omega
                        go_wp2_with fail
                        go_roundw
                        case rel => exact ⟨k + 1, by omega, by go_num, fun j hj => by
                          rcases Nat.lt_or_ge j k with h | h
                          · exact HO.out j h
                          · obtain rfl : j = k := by omega
                            exact HOK.out, _, rfl⟩
                        case measure => simp [intOf]; omega
                  · rw [decide_eq_false hC] at HC
                    have HN := Lib.hid (TriP.bad (n := n) hlt (fun q => by have := q.2.1 hk0; rw [HRP.out, HRK.out] at this; exact hC this))
                    clear hC hk0
                    go_wp2_with fail
                    go_quiet ((go_at_call 233; exact quiet_tq (HC.out _)))
                    go_wp2_with fail
                    go_ret
                    exact ⟨ret_bool HN.out.symm, _, drewN_two _ _ _⟩
            · have HDD := Lib.hid (show diagB n (rowOf d k) = true by rw [HRK.out]; unfold diagB; simp [List.getD]; omega)
              have e1 : (c == 0) = false := beq_eq_false_iff_ne.2 h0
              clear h0
              go_wp2_with fail
              go_quiet (first | (go_at_call 185; exact quiet_lq (l1In_yes _ _ _ _ (by omega) (by omega))) | (go_at_call 185; exact quiet_lq (l1In_no _ _ _ _ (by omega))))
              rcases Nat.eq_zero_or_pos k with hk0 | hk0
              · have HOK := Lib.hid (show TriOk n d k from ⟨HDD.out, fun h => by omega, fun j hj => by omega⟩)
                have fk : decide ((0 : Int) < (k : Int)) = false := decide_eq_false (by omega)
                have hkn : (k : Int) ≤ 0 := by omega
                have fkn : decide (0 < k) = false := decide_eq_false (by omega)
                clear hk0
                go_wp2_with fail
                go_quiet (fail)
                go_wp2_with fail
                refine wp_loop_rounds 1 ?_
                rw [rounds_succ]
                go_wp2_with fail
                go_roundw
                case rel => exact ⟨k + 1, by omega, by go_num, fun j hj => by
                  rcases Nat.lt_or_ge j k with h | h
                  · exact HO.out j h
                  · obtain rfl : j = k := by omega
                    exact HOK.out, _, rfl⟩
                case measure => simp [intOf]; omega
              · obtain ⟨c', g', hx', _, _, _, _⟩ := diag_two (HO.out (k - 1) (by omega)).1
                obtain ⟨bl', o', b2, o2, c2, he, cp, hc2, e0, e1, rp⟩ := HV.out.two (show k - 1 < d.length by omega) hx'
                injection he with he
                injection he with he1 he2
                subst he1
                subst he2
                have HRP := Lib.hid hx'
                have hk1 : ((k : Int) - 1) = ((k - 1 : Nat) : Int) := by omega
                have ek1 : IntKind.i64.wrap ((k : Int) - 1) = ((k - 1 : Nat) : Int) := by rw [IntWalk.i64_in _ (by omega)]; exact hk1
                have hk1l : ((k - 1 : Nat) : Int) < (d.length : Int) := by omega
                have hk10 : (0 : Int) ≤ ((k - 1 : Nat) : Int) := by omega
                have hkp : (0 : Int) < (k : Int) := by omega
                have fkp : decide ((0 : Int) < (k : Int)) = true := decide_eq_true hkp
                have fkq : decide (0 < k) = true := decide_eq_true hk0
                have HC := Lib.hid (fun q2 : Nat => l7Before_any c' g' c g _ _ (w.drewN q2) rp rx)
                clear hx'
                by_cases hC : cmpL [c', g'] [c, g] < 0
                · rw [decide_eq_true hC] at HC
                  have HCC := Lib.hid hC
                  have HKP := Lib.hid hk0
                  clear hC hk0
                  go_wp2_with fail
                  go_quiet ((go_at_call 233; exact quiet_tq (HC.out _)))
                  go_wp2_with fail
                  go_loopw [6] (fun i wr => ∃ m : Nat, m ≤ k ∧ i = .int .i64 (m : Int) ∧ Hid (∀ j, j < m → crB (rowOf d j) (rowOf d k) = false) ∧ ∃ q, wr = w.drewN q) (fun i _ => k - (intOf i).toNat)
                  case atStart => exact ⟨0, by omega, rfl, Lib.hid (fun j h => absurd h (by omega)), _, by first | rfl | exact drewN_two _ _ _⟩
                  case round =>
                    obtain ⟨m, hm2, rfl, HX, q3, rfl⟩ := hrel
                    by_cases hml : m < k
                    · have hmi : (m : Int) < (k : Int) := by omega
                      have hmdi : (m : Int) < (d.length : Int) := by omega
                      obtain ⟨a, b, hy, _, _, _, _⟩ := diag_two (HO.out m hml).1
                      obtain ⟨bl', o', b3, o3, c3, he, cm, hc3, g0, g1, ry⟩ := HV.out.two (show m < d.length by omega) hy
                      injection he with he
                      injection he with he1 he2
                      subst he1
                      subst he2
                      have HRM := Lib.hid hy
                      have hX := fun q2 : Nat => l7Crosses_any a b c g _ _ (w.drewN q2) ry rx
                      have HXX := Lib.hid (show crB (rowOf d m) (rowOf d k) = crN a b c g by rw [HRM.out, HRK.out]; rfl)
                      clear hy cp e0 e1 rp HRP HC
                      by_cases hcr : crN a b c g = true
                      · rw [hcr] at hX
                        have HX3 := Lib.hid hX
                        have HN := Lib.hid (TriP.bad (n := n) hlt (fun q => by have := q.2.2 m hml; rw [HXX.out, hcr] at this; cases this))
                        clear hX hcr
                        go_wp2_with fail
                        go_quiet ((go_at_call 234; exact quiet_tq (HX3.out _)))
                        go_wp2_with fail
                        go_ret
                        exact ⟨ret_bool HN.out.symm, _, drewN_two _ _ _⟩
                      · have hcf : crN a b c g = false := by simpa using hcr
                        rw [hcf] at hX
                        have HX3 := Lib.hid hX
                        have HN := Lib.hid (show ∀ j, j < m + 1 → crB (rowOf d j) (rowOf d k) = false from fun j hj => by
                          rcases Nat.lt_or_ge j m with h | h
                          · exact HX.out j h
                          · obtain rfl : j = m := by omega
                            rw [HXX.out, hcf])
                        clear hX hcr hcf
                        go_wp2_with fail
                        go_quiet ((go_at_call 234; exact quiet_tq (HX3.out _)))
                        go_wp2_with fail
                        go_roundw
                        case rel => exact ⟨m + 1, by omega, by go_num, HN, _, rfl⟩
                        case measure => simp [intOf]; omega
                    · have hme : m = k := by omega
                      have HOK := Lib.hid (show TriOk n d k from ⟨HDD.out, fun _ => by rw [HRP.out, HRK.out]; exact HCC.out, fun j hj => HX.out j (by omega)⟩)
                      have hmi : ¬ (m : Int) < (k : Int) := by omega
                      go_wp2_with fail
                      go_roundw
                      case rel => exact ⟨k + 1, by omega, by go_num, fun j hj => by
                        rcases Nat.lt_or_ge j k with h | h
                        · exact HO.out j h
                        · obtain rfl : j = k := by omega
                          exact HOK.out, _, rfl⟩
                      case measure => simp [intOf]; omega
                · rw [decide_eq_false hC] at HC
                  have HN := Lib.hid (TriP.bad (n := n) hlt (fun q => by have := q.2.1 hk0; rw [HRP.out, HRK.out] at this; exact hC this))
                  clear hC hk0
                  go_wp2_with fail
                  go_quiet ((go_at_call 233; exact quiet_tq (HC.out _)))
                  go_wp2_with fail
                  go_ret
                  exact ⟨ret_bool HN.out.symm, _, drewN_two _ _ _⟩
          · have HN := Lib.hid (TriP.bad (n := n) hlt (fun q => by obtain ⟨c2, g2, e2, q1, q2, q3, q4⟩ := diag_two q.1; rw [HRK.out] at e2; injection e2 with e3 e4; injection e4 with e4 _; subst e3; subst e4; omega))
            clear HO
            go_wp2_with fail
            go_quiet (first | (go_at_call 185; exact quiet_lq (l1In_yes _ _ _ _ (by omega) (by omega))) | (go_at_call 185; exact quiet_lq (l1In_no _ _ _ _ (by omega))))
            go_wp2_with fail
            go_ret
            exact ⟨ret_bool HN.out.symm, _, drewN_two _ _ _⟩
        · have HN := Lib.hid (TriP.bad (n := n) hlt (fun q => by obtain ⟨c2, g2, e2, q1, q2, q3, q4⟩ := diag_two q.1; rw [HRK.out] at e2; injection e2 with e3 e4; injection e4 with e4 _; subst e3; subst e4; omega))
          clear HO
          go_wp2_with fail
          go_quiet (first | (go_at_call 185; exact quiet_lq (l1In_yes _ _ _ _ (by omega) (by omega))) | (go_at_call 185; exact quiet_lq (l1In_no _ _ _ _ (by omega))))
          go_wp2_with fail
          go_ret
          exact ⟨ret_bool HN.out.symm, _, drewN_two _ _ _⟩
      · obtain ⟨bl, o, u, rfl, cu, ru⟩ := HV.out.row hlt
        obtain ⟨uA, uc, rfl, _⟩ := id ru
        have HN := Lib.hid (TriP.bad (n := n) hlt (fun q => h2 (by obtain ⟨c2, g2, e2, _⟩ := diag_two q.1; rw [e2]; rfl)))
        have e1 : (((rowOf d k).length : Int) != 2) = true := bne_iff_ne.2 (by omega)
        clear h2
        generalize (rowOf d k).length = rl at cu e1
        go_wp2_with fail
        go_quiet (fail)
        go_wp2_with fail
        go_ret
        exact ⟨ret_bool HN.out.symm, _, drewN_two _ _ _⟩
    · have HN := Lib.hid (show decide (TriP n d) = true from decide_eq_true ⟨hr, by rw [HL.out]; omega, fun i hi => HO.out i (by omega)⟩)
      have hki : ¬ (k : Int) < (d.length : Int) := by omega
      go_wp2_with fail
      go_ret
      exact ⟨ret_bool HN.out.symm, q, rfl⟩
set_option maxHeartbeats 1600000 in
theorem specIsTriangulation_any (n : Int) (v : Value) (d : List (List Int)) (w : World) (hv : RdSS w v d) (_h64 : I64 n) :
    Calls Try.prog 171 #[.int .i64 n, v] w fun e w' => e = .returned (.bool (decide (TriP n d))) ∧ ∃ q, w' = w.drewN q := by
  by_cases hr : 2 ≤ n ∧ n ≤ 10
  · by_cases h3 : n ≤ 3
    · by_cases hl : d.length = 0
      · have HN := Lib.hid (show decide (TriP n d) = true from decide_eq_true ⟨hr, by omega, fun i hi => by omega⟩)
        obtain ⟨A, c0, rfl, hc, hll, _⟩ := id hv
        have f1 : ((d.length : Int) != 0) = false := by simp [hl]
        have hm : n - 3 ≤ 0 := by omega
        have hd0 : ¬ (0 : Int) < (d.length : Int) := by omega
        clear hv hl
        go_enter Try.func171, Try.ntmps171
        go_wp2_with (go_at_call 185; refine (l1In_yes _ _ _ _ (by omega) (by omega)).mono ?_; rintro e w' ⟨rfl, rfl⟩)
        refine wp_loop_rounds 1 ?_
        rw [rounds_succ]
        go_wp2_with fail
        go_ret
        exact ⟨ret_bool HN.out.symm, 0, rfl⟩
      · have HN := Lib.hid (show decide (TriP n d) = false from decide_eq_false (fun q => by have := q.2.1; omega))
        obtain ⟨A, c0, rfl, hc, hll, _⟩ := id hv
        have f1 : ((d.length : Int) != 0) = true := bne_iff_ne.2 (by omega)
        have hm : n - 3 ≤ 0 := by omega
        clear hv hl
        go_enter Try.func171, Try.ntmps171
        go_wp2_with (go_at_call 185; refine (l1In_yes _ _ _ _ (by omega) (by omega)).mono ?_; rintro e w' ⟨rfl, rfl⟩)
        go_ret
        exact ⟨ret_bool HN.out.symm, 0, rfl⟩
    · by_cases hl : (d.length : Int) = n - 3
      · exact specTri_main n v d w hv hr h3 hl
      · have HN := Lib.hid (show decide (TriP n d) = false from decide_eq_false (fun q => by have := q.2.1; omega))
        obtain ⟨A, c0, rfl, hc, hll, _⟩ := id hv
        have f1 : ((d.length : Int) != n - 3) = true := bne_iff_ne.2 hl
        have hm : 0 < n - 3 := by omega
        clear hv hl
        go_enter Try.func171, Try.ntmps171
        go_wp2_with (go_at_call 185; refine (l1In_yes _ _ _ _ (by omega) (by omega)).mono ?_; rintro e w' ⟨rfl, rfl⟩)
        go_ret
        exact ⟨ret_bool HN.out.symm, 0, rfl⟩
  · have HN := Lib.hid (show decide (TriP n d) = false from decide_eq_false (fun q => hr q.1))
    obtain ⟨A, c0, rfl, hc, hll, _⟩ := id hv
    clear hv
    go_enter Try.func171, Try.ntmps171
    go_wp2_with (go_at_call 185; refine (l1In_no _ _ _ _ hr).mono ?_; rintro e w' ⟨rfl, rfl⟩)
    go_ret
    exact ⟨ret_bool HN.out.symm, 0, rfl⟩
end Go.Proofs.Ytnkkgfeegaiakaa
