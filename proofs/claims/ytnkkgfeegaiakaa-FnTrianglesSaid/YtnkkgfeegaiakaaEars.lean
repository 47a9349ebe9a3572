/- Contracts of EarsOf, the program's and the reference's: the corners in no diagonal. Condition: a number of Go's. -/
import Derived.Test.YtnkkgfeegaiakaaPlain37
import Derived.Test.YtnkkgfeegaiakaaTriSpec
import Derived.Test.YtnkkgfeegaiakaaGround
namespace Go.Proofs.Ytnkkgfeegaiakaa
open Go.RowKit
theorem frB_succ {d : List (List Int)} {k : Nat} (h : k < d.length) {p q : Int} (hx : rowOf d k = [p, q]) (c : Int) : frB (d.take (k + 1)) c = (frB (d.take k) c && (decide (p ≠ c) && decide (q ≠ c))) := by
  unfold frB
  rw [take_succ_get _ _ h, List.all_append, ← rowOf_get h, hx]
  simp [e0, e1]
theorem eaR_no {n : Int} {d : List (List Int)} (h : ¬ TriP n d) : eaR n d = [] := by unfold eaR; rw [if_neg h]
theorem eaR_yes {N : Nat} {d : List (List Int)} (h : TriP (N : Int) d) : eaR (N : Int) d = earL d N := by unfold eaR; rw [if_pos h, Int.toNat_natCast]
set_option maxRecDepth 8000 in
set_option maxHeartbeats 3200000 in
theorem implEarsOf_any (n : Int) (v : Value) (d : List (List Int)) (w : World) (hv : RdSS w v d) (h64 : I64 n) :
    Calls Try.prog 150 #[.int .i64 n, v] w (RetI w (eaR n d)) := by
  have own0 := OwI.empty_ w w.heap.size (Nat.le_refl _)
  have hB0 : Below w.heap.size w (w.alloc (.cells #[] 3)) := (Below.refl _ _).alloc (Nat.le_refl _) _
  have HI0 := fun wq (hq : Below w.heap.size w wq) => implIsTriangulation_any n v d wq (hv.below hq) h64
  obtain ⟨A, c0, rfl, _, _, _⟩ := id hv
  have HV := Lib.hid hv
  by_cases hP : TriP n d
  · have hn := hP.1
    obtain ⟨N, rfl⟩ := Int.eq_ofNat_of_zero_le (show 0 ≤ n by omega)
    simp only [decide_eq_true hP] at HI0
    have HI := Lib.hid HI0
    have HR := Lib.hid (eaR_yes hP)
    have HT2 := Lib.hid hP.two
    clear hP HI0 hv h64
    go_enter Try.func150, Try.ntmps150
    go_wp2_with fail
    refine (HI.out _ hB0).mono ?_; rintro e w1 ⟨rfl, q, rfl⟩
    have own1 := own0.below (below_draws _ q)
    have hB1 := below_then hB0 (below_draws _ q)
    clear own0 hB0
    go_wp2_with fail
    generalize (w.alloc (.cells #[] 3)).drewN q = w1 at *
    go_loopw [5, 6] (fun x i wr => ∃ c : Nat, c ≤ N ∧ i = .int .i64 (c : Int) ∧ OwI wr w.heap.size x (earL d c) ∧ Below w.heap.size w wr) (fun _ i _ => N - (intOf i).toNat)
    case atStart => exact ⟨0, by omega, rfl, own1, hB1⟩
    case round =>
      clear own1 hB1
      obtain ⟨c, hcN, rfl, hown, hB⟩ := hrel
      by_cases hlt : c < N
      · have hlti : (c : Int) < (N : Int) := by omega
        go_wp2_with fail
        go_loopw [7, 23] (fun f i wq => ∃ k : Nat, k ≤ d.length ∧ i = .int .i64 (k : Int) ∧ f = .bool (frB (d.take k) (c : Int)) ∧ wq = wr) (fun _ i _ => d.length - (intOf i).toNat)
        case atStart => exact ⟨0, by omega, rfl, rfl, rfl⟩
        case round =>
          obtain ⟨k, hk, rfl, rfl, rfl⟩ := hrel
          by_cases hltk : k < d.length
          · have hltki : (k : Int) < (d.length : Int) := by omega
            obtain ⟨p, q, hpq⟩ := HT2.out.at_ hltk
            obtain ⟨bl, o, b1, o1, c1, rfl, q0, q1, q2, q3, _⟩ := RdSS.two (HV.out.below hB) hltk hpq
            have HS := Lib.hid (frB_succ hltk hpq (c : Int))
            clear hpq
            rcases hf : frB (d.take k) (c : Int) with _ | _
            · rw [hf] at HS
              have HN := Lib.hid (show frB (d.take (k + 1)) (c : Int) = false by rw [HS.out]; rfl)
              clear hf
              go_wp2_with fail
              go_roundw
              case rel => exact ⟨k + 1, by omega, by go_num, by rw [HN.out], by first | trivial | rfl⟩
              case measure => simp [intOf]; omega
            · rw [hf] at HS
              clear hf
              by_cases hp : p = (c : Int)
              · have f1 : (p != (c : Int)) = false := by rw [hp]; simp
                have HN := Lib.hid (show frB (d.take (k + 1)) (c : Int) = false by rw [HS.out, decide_eq_false (fun e => e hp)]; rfl)
                clear hp
                go_wp2_with fail
                go_roundw
                case rel => exact ⟨k + 1, by omega, by go_num, by rw [HN.out], by first | trivial | rfl⟩
                case measure => simp [intOf]; omega
              · have f1 : (p != (c : Int)) = true := bne_iff_ne.2 hp
                by_cases hq : q = (c : Int)
                · have f2 : (q != (c : Int)) = false := by rw [hq]; simp
                  have HN := Lib.hid (show frB (d.take (k + 1)) (c : Int) = false by rw [HS.out, decide_eq_true hp, decide_eq_false (fun e => e hq)]; rfl)
                  clear hp hq
                  go_wp2_with fail
                  go_roundw
                  case rel => exact ⟨k + 1, by omega, by go_num, by rw [HN.out], by first | trivial | rfl⟩
                  case measure => simp [intOf]; omega
                · have f2 : (q != (c : Int)) = true := bne_iff_ne.2 hq
                  have HN := Lib.hid (show frB (d.take (k + 1)) (c : Int) = true by rw [HS.out, decide_eq_true hp, decide_eq_true hq]; rfl)
                  clear hp hq
                  go_wp2_with fail
                  go_roundw
                  case rel => exact ⟨k + 1, by omega, by go_num, by rw [HN.out], by first | trivial | rfl⟩
                  case measure => simp [intOf]; omega
          · have hltki : ¬ (k : Int) < (d.length : Int) := by omega
            obtain rfl : k = d.length := by omega
            have HS := Lib.hid (earL_succ d c)
            have hel := earL_len d c
            rw [List.take_length]
            rcases hf : frB d (c : Int) with _ | _
            · have HN := Lib.hid (show earL d (c + 1) = earL d c by rw [HS.out, hf]; simp)
              clear hf
              go_wp2_with fail
              go_roundw
              case rel => exact ⟨c + 1, by omega, by go_num, by rw [HN.out]; exact hown, hB⟩
              case measure => simp [intOf]; omega
            · have HN := Lib.hid (show earL d (c + 1) = earL d c ++ [(c : Int)] by rw [HS.out, hf]; simp)
              clear hf
              have hlen : (earL d c).length < 1099511627776 := by omega
              have hsz := hB.size
              go_wp2_with (at_builtin; refine wpList_appI _ rfl _ _ rfl w.heap.size _ _ rfl hown _ rfl rfl hlen hsz ?_)
              intro v' w3 hown3 hg3 hat3
              have hB3 := below_of_own hB hg3 hsz (fun g hg => (hown.lt g hg).1)
              clear hown hB hg3 hat3
              go_wp2_with fail
              go_roundw
              case rel => exact ⟨c + 1, by omega, by go_num, by rw [HN.out]; exact hown3, hB3⟩
              case measure => simp [intOf]; omega
      · have hlti : ¬ (c : Int) < (N : Int) := by omega
        obtain rfl : c = N := by omega
        go_wp2_with fail
        go_ret
        exact ⟨_, rfl, by rw [HR.out]; exact hown, hB⟩
  · simp only [decide_eq_false hP] at HI0
    have HI := Lib.hid HI0
    have HR := Lib.hid (eaR_no hP)
    clear hP HI0 hv
    go_enter Try.func150, Try.ntmps150
    go_wp2_with fail
    refine (HI.out _ hB0).mono ?_; rintro e w1 ⟨rfl, q, rfl⟩
    have own1 := own0.below (below_draws _ q)
    have hB1 := below_then hB0 (below_draws _ q)
    go_wp2_with fail
    go_ret
    exact ⟨_, rfl, by rw [HR.out]; exact own1, hB1⟩
set_option maxRecDepth 8000 in
set_option maxHeartbeats 3200000 in
theorem specEarsOf_any (n : Int) (v : Value) (d : List (List Int)) (w : World) (hv : RdSS w v d) (h64 : I64 n) :
    Calls Try.prog 157 #[.int .i64 n, v] w (RetI w (eaR n d)) := by
  have own0 := OwI.empty_ w w.heap.size (Nat.le_refl _)
  have hB0 : Below w.heap.size w (w.alloc (.cells #[] 3)) := (Below.refl _ _).alloc (Nat.le_refl _) _
  have HI0 := fun wq (hq : Below w.heap.size w wq) => specIsTriangulation_any n v d wq (hv.below hq) h64
  obtain ⟨A, c0, rfl, _, _, _⟩ := id hv
  have HV := Lib.hid hv
  by_cases hP : TriP n d
  · have hn := hP.1
    obtain ⟨N, rfl⟩ := Int.eq_ofNat_of_zero_le (show 0 ≤ n by omega)
    simp only [decide_eq_true hP] at HI0
    have HI := Lib.hid HI0
    have HR := Lib.hid (eaR_yes hP)
    have HT2 := Lib.hid hP.two
    clear hP HI0 hv h64
    go_enter Try.func157, Try.ntmps157
    go_wp2_with fail
    generalize w.alloc (.cells #[] 3) = w1 at *
    go_loopw [5, 6] (fun x i wr => ∃ c : Nat, c ≤ N ∧ i = .int .i64 (c : Int) ∧ OwI wr w.heap.size x (earL d c) ∧ Below w.heap.size w wr) (fun _ i _ => N - (intOf i).toNat)
    case atStart => exact ⟨0, by omega, rfl, own0, hB0⟩
    case round =>
      clear own0 hB0
      obtain ⟨c, hcN, rfl, hown0, hB0⟩ := hrel
      by_cases hlt : c < N
      · have hlti : (c : Int) < (N : Int) := by omega
        go_wp2_with fail
        refine (HI.out _ hB0).mono ?_; rintro e w2 ⟨rfl, q, rfl⟩
        have hown := hown0.below (below_draws _ q)
        have hB := below_then hB0 (below_draws _ q)
        clear hown0 hB0
        go_wp2_with fail
        generalize wr.drewN q = wr at *
        go_loopw [7, 8] (fun f i wq => ∃ k : Nat, k ≤ d.length ∧ i = .int .i64 (k : Int) ∧ f = .bool (frB (d.take k) (c : Int)) ∧ wq = wr) (fun _ i _ => d.length - (intOf i).toNat)
        case atStart => exact ⟨0, by omega, rfl, rfl, rfl⟩
        case round =>
          obtain ⟨k, hk, rfl, rfl, rfl⟩ := hrel
          by_cases hltk : k < d.length
          · have hltki : (k : Int) < (d.length : Int) := by omega
            obtain ⟨p, q, hpq⟩ := HT2.out.at_ hltk
            obtain ⟨bl, o, b1, o1, c1, rfl, q0, q1, q2, q3, _⟩ := RdSS.two (HV.out.below hB) hltk hpq
            have HS := Lib.hid (frB_succ hltk hpq (c : Int))
            clear hpq
            rcases hf : frB (d.take k) (c : Int) with _ | _
            · rw [hf] at HS
              have HN := Lib.hid (show frB (d.take (k + 1)) (c : Int) = false by rw [HS.out]; rfl)
              clear hf
              go_wp2_with fail
              go_roundw
              case rel => exact ⟨k + 1, by omega, by go_num, by rw [HN.out], by first | trivial | rfl⟩
              case measure => simp [intOf]; omega
            · rw [hf] at HS
              clear hf
              by_cases hp : p = (c : Int)
              · have f1 : (p != (c : Int)) = false := by rw [hp]; simp
                have HN := Lib.hid (show frB (d.take (k + 1)) (c : Int) = false by rw [HS.out, decide_eq_false (fun e => e hp)]; rfl)
                clear hp
                go_wp2_with fail
                go_roundw
                case rel => exact ⟨k + 1, by omega, by go_num, by rw [HN.out], by first | trivial | rfl⟩
                case measure => simp [intOf]; omega
              · have f1 : (p != (c : Int)) = true := bne_iff_ne.2 hp
                by_cases hq : q = (c : Int)
                · have f2 : (q != (c : Int)) = false := by rw [hq]; simp
                  have HN := Lib.hid (show frB (d.take (k + 1)) (c : Int) = false by rw [HS.out, decide_eq_true hp, decide_eq_false (fun e => e hq)]; rfl)
                  clear hp hq
                  go_wp2_with fail
                  go_roundw
                  case rel => exact ⟨k + 1, by omega, by go_num, by rw [HN.out], by first | trivial | rfl⟩
                  case measure => simp [intOf]; omega
                · have f2 : (q != (c : Int)) = true := bne_iff_ne.2 hq
                  have HN := Lib.hid (show frB (d.take (k + 1)) (c : Int) = true by rw [HS.out, decide_eq_true hp, decide_eq_true hq]; rfl)
                  clear hp hq
                  go_wp2_with fail
                  go_roundw
                  case rel => exact ⟨k + 1, by omega, by go_num, by rw [HN.out], by first | trivial | rfl⟩
                  case measure => simp [intOf]; omega
          · have hltki : ¬ (k : Int) < (d.length : Int) := by omega
            obtain rfl : k = d.length := by omega
            have HS := Lib.hid (earL_succ d c)
            have hel := earL_len d c
            rw [List.take_length]
            rcases hf : frB d (c : Int) with _ | _
            · have HN := Lib.hid (show earL d (c + 1) = earL d c by rw [HS.out, hf]; simp)
              clear hf
              go_wp2_with fail
              go_roundw
              case rel => exact ⟨c + 1, by omega, by go_num, by rw [HN.out]; exact hown, hB⟩
              case measure => simp [intOf]; omega
            · have HN := Lib.hid (show earL d (c + 1) = earL d c ++ [(c : Int)] by rw [HS.out, hf]; simp)
              clear hf
              have hlen : (earL d c).length < 1099511627776 := by omega
              have hsz := hB.size
              go_wp2_with (at_builtin; refine wpList_appI _ rfl _ _ rfl w.heap.size _ _ rfl hown _ rfl rfl hlen hsz ?_)
              intro v' w3 hown3 hg3 hat3
              have hB3 := below_of_own hB hg3 hsz (fun g hg => (hown.lt g hg).1)
              clear hown hB hg3 hat3
              go_wp2_with fail
              go_roundw
              case rel => exact ⟨c + 1, by omega, by go_num, by rw [HN.out]; exact hown3, hB3⟩
              case measure => simp [intOf]; omega
      · have hlti : ¬ (c : Int) < (N : Int) := by omega
        obtain rfl : c = N := by omega
        go_wp2_with fail
        go_ret
        exact ⟨_, rfl, by rw [HR.out]; exact hown0, hB0⟩
  · simp only [decide_eq_false hP] at HI0
    have HI := Lib.hid HI0
    have HR := Lib.hid (eaR_no hP)
    clear hP HI0 hv
    by_cases h0 : 0 < n
    · go_enter Try.func157, Try.ntmps157
      go_wp2_with fail
      refine wp_loop_rounds 1 ?_
      rw [rounds_succ]
      go_wp2_with fail
      refine (HI.out _ hB0).mono ?_; rintro e w1 ⟨rfl, q, rfl⟩
      have own1 := own0.below (below_draws _ q)
      have hB1 := below_then hB0 (below_draws _ q)
      go_wp2_with fail
      go_ret
      exact ⟨_, rfl, by rw [HR.out]; exact own1, hB1⟩
    · go_enter Try.func157, Try.ntmps157
      go_wp2_with fail
      refine wp_loop_rounds 1 ?_
      rw [rounds_succ]
      go_wp2_with fail
      go_ret
      exact ⟨_, rfl, by rw [HR.out]; exact own0, hB0⟩
end Go.Proofs.Ytnkkgfeegaiakaa
