/- Contract of the reference's TrianglesOf: all triples of joined corners, in order. Condition: a number of Go's. -/
import Derived.Test.YtnkkgfeegaiakaaTriOfImpl
import Derived.Test.YtnkkgfeegaiakaaTriSpec
namespace Go.Proofs.Ytnkkgfeegaiakaa
open Go.RowKit
theorem trC_succ (n : Int) (d : List (List Int)) (a b : Int) (k : Nat) : trC n d a b (k + 1) = trC n d a b k ++ (if sdB n d a b && (sdB n d b (b + 1 + k) && sdB n d a (b + 1 + k)) then [[a, b, b + 1 + (k : Int)]] else []) := by simp [trC, List.range_succ]
theorem trB_succ (n : Int) (d : List (List Int)) (a : Int) (k : Nat) : trB n d a (k + 1) = trB n d a k ++ trC n d a (a + 1 + k) (n - (a + 1 + k) - 1).toNat := by simp [trB, List.range_succ]
theorem trA_succ (n : Int) (d : List (List Int)) (k : Nat) : trA n d (k + 1) = trA n d k ++ trB n d (k : Int) (n - k - 1).toNat := by simp [trA, List.range_succ]
theorem OwR.none_ (w : World) (base : Nat) : Spine w base (.slice none 0 0) [] := ⟨World.ownsRow_nil _ _ _ _, by simp⟩
set_option maxRecDepth 8000 in
set_option maxHeartbeats 4000000 in
theorem specTrianglesOf_any (n : Int) (v : Value) (d : List (List Int)) (w : World) (hv : RdSS w v d) (h64 : I64 n) :
    Calls Try.prog 18 #[.int .i64 n, v] w (RetSSB w (toR n d)) := by
  have e0 : (w.alloc (.cells #[] 38)).heap.size = w.heap.size + 1 := by simp
  have sp0 := Spine.empty_ w w.heap.size (Nat.le_refl _)
  have B0 : Below w.heap.size w (w.alloc (.cells #[] 38)) := (Below.refl _ _).alloc (Nat.le_refl _) _
  have hv0 := hv.below B0
  have hT := specIsTriangulation_any n v d _ hv0 h64
  obtain ⟨A, c0, rfl, hc, hll, _⟩ := id hv
  by_cases hP : TriP n d
  · rw [decide_eq_true hP] at hT
    have HT := Lib.hid hT
    have hn := hP.1
    obtain ⟨N, rfl⟩ := Int.eq_ofNat_of_zero_le (show 0 ≤ n by omega)
    have hN : 2 ≤ N ∧ N ≤ 10 := by omega
    have HR := Lib.hid (show toR (N : Int) d = (trA (N : Int) d N, true) by unfold toR; rw [if_pos hP]; rfl)
    have H2 := Lib.hid hP.two
    have HV := Lib.hid hv
    clear hP hT hv hv0 hn e0 h64
    go_enter Try.func18, Try.ntmps18
    go_wp2_with fail
    refine HT.out.mono ?_; clear HT; rintro e w1 ⟨rfl, q, rfl⟩
    have sp1 := sp0.below (below_draws _ q)
    have B1 := below_then B0 (below_draws _ q)
    clear sp0 B0
    go_wp2_with fail
    generalize (w.alloc (.cells #[] 38)).drewN q = w1 at *
    go_loopw [6, 7] (fun x i wr => ∃ (a g cap : Nat) (Ps : List (Value × List Int)), a ≤ N ∧ i = .int .i64 (a : Int) ∧ x = .slice (some ⟨g, 0, none⟩) Ps.length cap ∧ Spine wr w.heap.size x Ps ∧ RowsOk wr w.heap.size Ps ∧ Hid (Ps.map (fun (q : Value × List Int) => q.2) = trA (N : Int) d a) ∧ Hid (Ps.length ≤ a * 100) ∧ Below w.heap.size w wr) (fun _ i _ => N - (intOf i).toNat)
    case atStart => exact ⟨0, _, _, [], by omega, rfl, rfl, sp1, RowsOk.nil_ _ _, rfl, by simp [Hid], B1⟩
    case round =>
      clear sp1 B1
      obtain ⟨a, g, cap, Ps, haN, rfl, rfl, hsp, hrow, HE, HL, hB⟩ := hrel
      by_cases hlt : a < N
      · have hlti : (a : Int) < (N : Int) := by omega
        go_wp2_with fail
        go_loopw [6, 8] (fun x i wr => ∃ (j g cap : Nat) (Ps : List (Value × List Int)), a + 1 + j ≤ N ∧ i = .int .i64 ((a : Int) + 1 + (j : Int)) ∧ x = .slice (some ⟨g, 0, none⟩) Ps.length cap ∧ Spine wr w.heap.size x Ps ∧ RowsOk wr w.heap.size Ps ∧ Hid (Ps.map (fun (q : Value × List Int) => q.2) = trA (N : Int) d a ++ trB (N : Int) d (a : Int) j) ∧ Hid (Ps.length ≤ a * 100 + j * 10) ∧ Below w.heap.size w wr) (fun _ i _ => N + 1 - (intOf i).toNat)
        case atStart => exact ⟨0, g, cap, Ps, by omega, by simp, rfl, hsp, hrow, by rw [HE.out]; simp [trB, Hid], by have := HL.out; simp [Hid]; omega, hB⟩
        case round =>
          clear hsp hrow HE HL hB
          obtain ⟨j, g, cap, Ps, hjN, rfl, rfl, hsp, hrow, HE, HL, hB⟩ := hrel
          obtain ⟨b, hb⟩ : ∃ b : Nat, b = a + 1 + j := ⟨_, rfl⟩
          have hbi : (a : Int) + 1 + (j : Int) = (b : Int) := by omega
          have HBI := Lib.hid hbi
          have HBN := Lib.hid hb
          rw [hbi]
          by_cases hltb : b < N
          · have hltbi : (b : Int) < (N : Int) := by omega
            clear hbi hb
            go_wp2_with fail
            go_loopw [6, 9] (fun x i wr => ∃ (k g cap : Nat) (Ps : List (Value × List Int)), b + 1 + k ≤ N ∧ i = .int .i64 ((b : Int) + 1 + (k : Int)) ∧ x = .slice (some ⟨g, 0, none⟩) Ps.length cap ∧ Spine wr w.heap.size x Ps ∧ RowsOk wr w.heap.size Ps ∧ Hid (Ps.map (fun (q : Value × List Int) => q.2) = trA (N : Int) d a ++ trB (N : Int) d (a : Int) j ++ trC (N : Int) d (a : Int) (b : Int) k) ∧ Hid (Ps.length ≤ a * 100 + j * 10 + k) ∧ Below w.heap.size w wr) (fun _ i _ => N + 2 - (intOf i).toNat)
            case atStart => exact ⟨0, g, cap, Ps, by omega, by simp, rfl, hsp, hrow, by rw [HE.out]; simp [trC, Hid], by have := HL.out; simp [Hid]; omega, hB⟩
            case round =>
              clear hsp hrow HE HL hB
              obtain ⟨k, g, cap, Ps, hkN, rfl, rfl, hsp, hrow, HE, HL, hB⟩ := hrel
              obtain ⟨c, hc'⟩ : ∃ c : Nat, c = b + 1 + k := ⟨_, rfl⟩
              have hci : (b : Int) + 1 + (k : Int) = (c : Int) := by omega
              have HCI := Lib.hid hci
              have HCN := Lib.hid hc'
              rw [hci]
              by_cases hltc : c < N
              · have hltci : (c : Int) < (N : Int) := by omega
                have HCS := Lib.hid (trC_succ (N : Int) d (a : Int) (b : Int) k)
                rw [hci] at HCS
                have habc : a < b ∧ b < c := by have := HBN.out; omega
                have hw1 := HV.out.below hB
                have H1 := Lib.hid (fun wq (hq : Below w.heap.size w wq) => to_below (l7Side_any (N : Int) (a : Int) (b : Int) _ d wq (HV.out.below hq) H2.out (by omega) (by omega) (by omega)))
                have H3 := Lib.hid (fun wq (hq : Below w.heap.size w wq) => to_below (l7Side_any (N : Int) (b : Int) (c : Int) _ d wq (HV.out.below hq) H2.out (by omega) (by omega) (by omega)))
                have H4 := Lib.hid (fun wq (hq : Below w.heap.size w wq) => to_below (l7Side_any (N : Int) (a : Int) (c : Int) _ d wq (HV.out.below hq) H2.out (by omega) (by omega) (by omega)))
                have hkl : Ps.length ≤ 2000 := by have := HL.out; have := HBN.out; have := HCN.out; omega
                clear hci hc' hw1
                rcases s1 : sdB (N : Int) d (a : Int) (b : Int) with _ | _
                · rw [s1] at H1 HCS
                  have HN := Lib.hid HCS.out
                  simp only [Bool.false_and, Bool.false_eq_true, if_false] at HN
                  clear s1 HCS
                  go_wp2_with fail
                  refine (H1.out _ hB).mono ?_; rintro e w4 ⟨rfl, b4⟩
                  have sp4 := hsp.below b4
                  have ro4 := hrow.below b4
                  have B4 := below_then hB b4
                  clear hsp hrow hB
                  go_wp2_with fail
                  go_roundw
                  case rel => exact ⟨k + 1, g, cap, Ps, by have := HCN.out; omega, by have := HCI.out; go_num, rfl, sp4, ro4, Lib.hid (by rw [HE.out, HN.out, List.append_nil]), by have := HL.out; simp only [Hid] at *; omega, B4⟩
                  case measure => simp [intOf]; omega
                · rw [s1] at H1 HCS
                  clear s1
                  rcases s3 : sdB (N : Int) d (b : Int) (c : Int) with _ | _
                  · skip
                    have HN := Lib.hid HCS.out
                    rw [s3] at HN
                    rw [s3] at H3
                    simp only [Bool.false_and, Bool.true_and, Bool.false_eq_true, if_false] at HN
                    clear s3 HCS
                    go_wp2_with fail
                    refine (H1.out _ hB).mono ?_; rintro e w4 ⟨rfl, b4⟩
                    have sp4 := hsp.below b4
                    have ro4 := hrow.below b4
                    have B4 := below_then hB b4
                    clear hsp hrow hB
                    go_wp2_with fail
                    refine (H3.out _ B4).mono ?_; rintro e w5 ⟨rfl, b5⟩
                    have sp5 := sp4.below b5
                    have ro5 := ro4.below b5
                    have B5 := below_then B4 b5
                    clear sp4 ro4 B4 b4 b5
                    go_wp2_with fail
                    go_roundw
                    case rel => exact ⟨k + 1, g, cap, Ps, by have := HCN.out; omega, by have := HCI.out; go_num, rfl, sp5, ro5, Lib.hid (by rw [HE.out, HN.out, List.append_nil]), by have := HL.out; simp only [Hid] at *; omega, B5⟩
                    case measure => simp [intOf]; omega
                  · rw [s3] at H3 HCS
                    clear s3
                    rcases s4 : sdB (N : Int) d (a : Int) (c : Int) with _ | _
                    · skip
                      have HN := Lib.hid HCS.out
                      rw [s4] at HN H4
                      simp only [Bool.and_false, Bool.false_eq_true, if_false] at HN
                      clear s4 HCS
                      go_wp2_with fail
                      refine (H1.out _ hB).mono ?_; rintro e w4 ⟨rfl, b4⟩
                      have sp4 := hsp.below b4
                      have ro4 := hrow.below b4
                      have B4 := below_then hB b4
                      clear hsp hrow hB
                      go_wp2_with fail
                      refine (H3.out _ B4).mono ?_; rintro e w5 ⟨rfl, b5⟩
                      have sp5 := sp4.below b5
                      have ro5 := ro4.below b5
                      have B5 := below_then B4 b5
                      clear sp4 ro4 B4 b4 b5
                      go_wp2_with fail
                      refine (H4.out _ B5).mono ?_; rintro e w6 ⟨rfl, b6⟩
                      have sp6 := sp5.below b6
                      have ro6 := ro5.below b6
                      have B6 := below_then B5 b6
                      clear sp5 ro5 B5 b6
                      go_wp2_with fail
                      go_roundw
                      case rel => exact ⟨k + 1, g, cap, Ps, by have := HCN.out; omega, by have := HCI.out; go_num, rfl, sp6, ro6, Lib.hid (by rw [HE.out, HN.out, List.append_nil]), by have := HL.out; simp only [Hid] at *; omega, B6⟩
                      case measure => simp [intOf]; omega
                    · skip
                      have HN := Lib.hid HCS.out
                      rw [s4] at HN H4
                      simp only [Bool.and_false, Bool.and_self, if_true] at HN
                      clear s4 HCS
                      go_wp2_with fail
                      refine (H1.out _ hB).mono ?_; rintro e w4 ⟨rfl, b4⟩
                      have sp4 := hsp.below b4
                      have ro4 := hrow.below b4
                      have B4 := below_then hB b4
                      clear hsp hrow hB
                      go_wp2_with fail
                      refine (H3.out _ B4).mono ?_; rintro e w5 ⟨rfl, b5⟩
                      have sp5 := sp4.below b5
                      have ro5 := ro4.below b5
                      have B5 := below_then B4 b5
                      clear sp4 ro4 B4 b4 b5
                      go_wp2_with fail
                      refine (H4.out _ B5).mono ?_; rintro e w6 ⟨rfl, b6⟩
                      have sp6 := sp5.below b6
                      have ro6 := ro5.below b6
                      have B6 := below_then B5 b6
                      clear sp5 ro5 B5 b6
                      have hb6 := B6.size
                      have oR := lit3 w6 (a : Int) (b : Int) (c : Int) w.heap.size hb6
                      have bR : Below w6.heap.size w6 (w6.alloc (.cells #[.int .i64 (a : Int), .int .i64 (b : Int), .int .i64 (c : Int)] 3)) := (Below.refl _ _).alloc (Nat.le_refl _) _
                      have sR := sp6.below bR
                      have hbR : w.heap.size ≤ (w6.alloc (.cells #[.int .i64 (a : Int), .int .i64 (b : Int), .int .i64 (c : Int)] 3)).heap.size := Nat.le_trans hb6 bR.size
                      have hlR : Ps.length < 1099511627776 := by omega
                      go_wp2_with (at_builtin; refine wpList_appSp _ rfl _ _ rfl w.heap.size _ Ps rfl sR (.slice (some ⟨w6.heap.size, 0, none⟩) 3 3, [(a : Int), (b : Int), (c : Int)]) rfl rfl (by simp) hlR hbR ?_)
                      intro v7 w7 s7 g7 a7
                      have h7 : T2 w6 w.heap.size (.slice (some ⟨g, 0, none⟩) Ps.length cap) (.slice none 0 0) Ps [] := ⟨sp6, ro6, OwR.none_ w6 w.heap.size, RowsOk.nil_ _ _, fun _ _ h => by cases h⟩
                      obtain ⟨t7, k7, _⟩ := T2.addC h7 bR oR s7 g7 a7
                      have hgb := (Spine.lt sp6 g rfl).1
                      have B7 : Below w.heap.size w w7 := ⟨k7.os.trans B6.os, k7.tape.trans B6.tape, k7.output.trans B6.output, Nat.le_trans B6.size k7.size, fun i hi => (k7.block i (Nat.lt_of_lt_of_le hi B6.size) (fun e => by have e : g = i := Option.some.inj e; omega) (fun e => by cases e)).trans (B6.block i hi)⟩
                      have sp7 := Lib.hid t7.c
                      have ro7 := Lib.hid t7.cr
                      obtain ⟨_, g8, cap8, rfl⟩ := a7
                      have HLL := Lib.hid (show (Ps ++ [((.slice (some ⟨w6.heap.size, 0, none⟩) 3 3, [(a : Int), (b : Int), (c : Int)]) : Value × List Int)]).length = Ps.length + 1 by simp)
                      have HMM := Lib.hid (show (Ps ++ [((.slice (some ⟨w6.heap.size, 0, none⟩) 3 3, [(a : Int), (b : Int), (c : Int)]) : Value × List Int)]).map (fun (q : Value × List Int) => q.2) = trA (N : Int) d a ++ trB (N : Int) d (a : Int) j ++ trC (N : Int) d (a : Int) (b : Int) (k + 1) by rw [List.map_append, HE.out, HN.out]; simp [List.append_assoc])
                      clear t7 k7 h7 s7 g7 sp6 ro6 B6 oR bR sR hbR
                      generalize Ps ++ [((.slice (some ⟨w6.heap.size, 0, none⟩) 3 3, [(a : Int), (b : Int), (c : Int)]) : Value × List Int)] = R at *
                      go_wp2_with fail
                      go_roundw
                      case rel => exact ⟨k + 1, g8, cap8, R, by have := HCN.out; omega, by have := HCI.out; go_num, by rw [HLL.out], sp7.out, ro7.out, HMM.out, by have := HL.out; have := HLL.out; simp only [Hid] at *; omega, B7⟩
                      case measure => simp [intOf]; omega
              · have hltci : ¬ (c : Int) < (N : Int) := by omega
                have HTB := Lib.hid (show trB (N : Int) d (a : Int) (j + 1) = trB (N : Int) d (a : Int) j ++ trC (N : Int) d (a : Int) (b : Int) k by
                  rw [trB_succ, HBI.out, show ((N : Int) - (b : Int) - 1).toNat = k by omega])
                clear hci hc'
                go_wp2_with fail
                go_roundw
                case rel => exact ⟨j + 1, g, cap, Ps, by have := HBN.out; omega, by have := HBI.out; go_num, rfl, hsp, hrow, Lib.hid (by rw [HE.out, HTB.out, List.append_assoc]), by have := HL.out; simp only [Hid] at *; omega, hB⟩
                case measure => simp [intOf]; omega
          · have hltbi : ¬ (b : Int) < (N : Int) := by omega
            have HTA := Lib.hid (show trA (N : Int) d (a + 1) = trA (N : Int) d a ++ trB (N : Int) d (a : Int) j by
              rw [trA_succ, show ((N : Int) - (a : Int) - 1).toNat = j by omega])
            clear hbi hb
            go_wp2_with fail
            go_roundw
            case rel => exact ⟨a + 1, g, cap, Ps, by omega, by go_num, rfl, hsp, hrow, Lib.hid (by rw [HE.out, HTA.out]), by have := HL.out; have := HBN.out; simp only [Hid] at *; omega, hB⟩
            case measure => simp [intOf]; omega
      · have hlti : ¬ (a : Int) < (N : Int) := by omega
        obtain rfl : a = N := by omega
        have HEE := Lib.hid (show toR (a : Int) d = (Ps.map (fun (q : Value × List Int) => q.2), true) by rw [HR.out, HE.out])
        have HSS := Lib.hid (hsp.ss hrow)
        go_wp2_with fail
        go_ret2
        exact RetSSB.mk HEE.out HSS.out hB
  · rw [decide_eq_false hP] at hT
    have HT := Lib.hid hT
    have HR := Lib.hid (show toR n d = ([], false) by unfold toR; rw [if_neg hP])
    clear hP hT hv hv0 e0
    go_enter Try.func18, Try.ntmps18
    go_wp2_with fail
    refine HT.out.mono ?_; clear HT; rintro e w1 ⟨rfl, q0, rfl⟩
    go_wp2_with fail
    go_ret2
    exact RetSSB.mk HR.out ((sp0.below (below_draws _ q0)).ss (RowsOk.nil_ _ _)) (below_then B0 (below_draws _ q0))
end Go.Proofs.Ytnkkgfeegaiakaa
