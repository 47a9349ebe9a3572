/- Contracts of l2Cut, PartnerOf, NestedPairs and DepthOf over brackets, the program's and the reference's. Condition: a short text. -/
import Derived.Test.YtnkkgfeegaiakaaPathBr2
import Derived.Test.YtnkkgfeegaiakaaMatchOf
import Derived.Test.YtnkkgfeegaiakaaPathDepth
namespace Go.Proofs.Ytnkkgfeegaiakaa
open Go.RowKit
theorem l2Cut_any (s : ByteArray) (j : Nat) (w : World) (hd : DyckP (L s)) (ha : Arc (L s) 0 j) :
    Calls Try.prog 190 #[.string s] w fun e w' => e = .returned (.int .i64 (j : Int)) ∧ w = w' := by
  have hl16 := hd.1
  have hjl := ha.2.1
  rw [L_len] at hl16 hjl
  have HA := Lib.hid ha
  have HD := Lib.hid hd
  clear ha hd
  go_enter Try.func190, Try.ntmps190
  go_wp2_with fail
  go_loop [3, 4] (fun h i => ∃ k t : Nat, k ≤ j ∧ i = .int .i64 (k : Int) ∧ h = .int .i64 (t : Int) ∧ t ≤ k ∧ Hid (hN (L s) k = t)) (fun _ i => j + 1 - (intOf i).toNat)
  case atStart => exact ⟨0, 0, by omega, rfl, rfl, by omega, rfl⟩
  case round =>
    obtain ⟨k, t, hk, rfl, rfl, ht, HT⟩ := hrel
    have hlt : k < s.size := by omega
    have hkl : k < (L s).length := by rw [L_len]; exact hlt
    have hg : (L s)[k] = s[k] := L_get s k hlt
    by_cases hu : s[k].toNat = 117
    · have f1 : (((s[k].toNat : Nat) : Int) == 117) = true := beq_iff_eq.2 (by omega)
      have hne : k ≠ j := fun e => by
        subst e
        obtain ⟨_, c⟩ := HA.out.right HD.out
        exact c (by rw [hg]; exact hu)
      have HN := Lib.hid (show hN (L s) (k + 1) = t + 1 by rw [hN_up HD.out hkl (by rw [hg]; exact hu), HT.out])
      have f2 : ((t : Int) + 1 == 0) = false := beq_eq_false_iff_ne.2 (by omega)
      clear hu hg
      go_wp2_with fail
      go_round
      case rel => exact ⟨k + 1, t + 1, by omega, by go_num, by go_num, by omega, HN.out⟩
      case measure => simp [intOf]; omega
    · have f1 : (((s[k].toNat : Nat) : Int) == 117) = false := beq_eq_false_iff_ne.2 (by omega)
      obtain ⟨q1, q2⟩ := hN_down HD.out hkl (by rw [hg]; exact hu)
      rw [HT.out] at q1 q2
      by_cases hne : k = j
      · have h0 := HA.out.2.2.1
        have hz := hN_zero (L s)
        have f2 : ((t : Int) - 1 == 0) = true := beq_iff_eq.2 (by rw [← hne, q2] at h0; omega)
        have HJ := Lib.hid hne
        clear hu hg h0 hz q1 q2 hne
        go_wp2_with fail
        go_ret
        exact ⟨ret_int (by rw [HJ.out]), rfl⟩
      · have h0 := HA.out.2.2.2 (k + 1) (by omega) (by omega)
        rw [hN_zero, q2] at h0
        have f2 : ((t : Int) - 1 == 0) = false := beq_eq_false_iff_ne.2 (by omega)
        have HN := Lib.hid q2
        clear hu hg q2
        go_wp2_with fail
        go_round
        case rel => exact ⟨k + 1, t - 1, by omega, by go_num, by go_num, by omega, HN.out⟩
        case measure => simp [intOf]; omega
set_option maxHeartbeats 1000000 in
theorem implPartnerOf_in (b : ByteArray) (l : List UInt8) (i j : Nat) (w : World) (hb : L b = brk l) (hp : DyckP l) (hi : i < b.size) (hj : (prt l).getD i 0 = (j : Int)) :
    Calls Try.prog 44 #[.string b, .int .i64 (i : Int)] w fun e w' => e = .returned (.int .i64 (j : Int)) ∧ Below w.heap.size w w' := by
  have HE := implPathOfBrackets_any b l w hb hp
  have hbl := brk_at hb
  have hl16 := hp.1
  have HPT : Hid (∀ wq, Calls Try.prog 189 #[.string (S l)] wq (RetI wq (prt l))) := Lib.hid (fun wq => by have h := partners_any (S l) wq (by rw [L_S]; exact hp); rw [L_S] at h; exact h)
  have HPL := Lib.hid (prt_len hp)
  have HJ := Lib.hid hj
  have e1 : IntKind.i64.wrap ((b.size : Int) - 1) = (b.size : Int) - 1 := IntWalk.i64_in _ (by omega)
  have HBL := Lib.hid hbl
  clear hb hp hj hbl
  go_enter Try.func44, Try.ntmps44
  go_wp2_with fail
  refine HE.mono ?_; clear HE; rintro e w1 ⟨rfl, b1⟩
  go_wp2_with (go_at_call 178; refine (within_yes _ _ _ _ (by omega) (by omega)).mono ?_; rintro e w' ⟨rfl, rfl⟩)
  refine (HPT.out _).mono ?_; rintro e w2 ⟨r, rfl, o2, b2⟩
  have B2 := below_then b1 b2
  have hpi : i < (prt l).length := by rw [HPL.out, ← HBL.out]; exact hi
  obtain ⟨g, cap, rfl⟩ : ∃ g cap, r = .slice (some ⟨g, 0, none⟩) (prt l).length cap := by
    rcases o2.shape with ⟨_, e⟩ | ⟨g, cap, e, _, _⟩
    · rw [e] at hpi; simp at hpi
    · exact ⟨g, cap, e⟩
  have c1 := o2.cellAt i hpi
  rw [← getD_of hpi 0, HJ.out] at c1
  rw [HPL.out, ← HBL.out]
  clear o2 b1 b2
  go_wp2_with fail
  go_ret
  exact ⟨rfl, B2⟩
theorem implPartnerOf_out (b : ByteArray) (l : List UInt8) (i : Int) (w : World) (hb : L b = brk l) (hp : DyckP l) (hi : ¬ (0 ≤ i ∧ i ≤ (b.size : Int) - 1)) :
    Calls Try.prog 44 #[.string b, .int .i64 i] w fun e w' => e = .returned (.int .i64 (-1)) ∧ Below w.heap.size w w' := by
  have HE := implPathOfBrackets_any b l w hb hp
  have hbl := brk_at hb
  have hl16 := hp.1
  have e1 : IntKind.i64.wrap ((b.size : Int) - 1) = (b.size : Int) - 1 := IntWalk.i64_in _ (by omega)
  clear hb hp hbl
  go_enter Try.func44, Try.ntmps44
  go_wp2_with fail
  refine HE.mono ?_; clear HE; rintro e w1 ⟨rfl, b1⟩
  go_wp2_with (go_at_call 178; refine (within_no _ _ _ _ hi).mono ?_; rintro e w' ⟨rfl, rfl⟩)
  go_ret
  exact ⟨rfl, b1⟩
theorem implPartnerOf_no (b : ByteArray) (i : Int) (w : World) (hb : b.size ≤ 16) (hn : ¬ BrP (L b)) :
    Calls Try.prog 44 #[.string b, .int .i64 i] w fun e w' => e = .returned (.int .i64 (-1)) ∧ Below w.heap.size w w' := by
  have HE := implPathOfBrackets_no b w hb hn
  clear hn
  go_enter Try.func44, Try.ntmps44
  go_wp2_with fail
  refine HE.mono ?_; clear HE; rintro e w1 ⟨rfl, b1⟩
  go_wp2_with fail
  go_ret
  exact ⟨rfl, b1⟩
set_option maxHeartbeats 1000000 in
theorem specPartnerOf_in (b : ByteArray) (l : List UInt8) (i j : Nat) (w : World) (hb : L b = brk l) (hp : DyckP l) (hi : i < b.size) (hj : Pr l i j) :
    Calls Try.prog 45 #[.string b, .int .i64 (i : Int)] w fun e w' => e = .returned (.int .i64 (j : Int)) ∧ Below w.heap.size w w' := by
  have HE := specPathOfBrackets_any b l w hb hp
  have hbl := brk_at hb
  have hl16 := hp.1
  have HPT : Hid (∀ wq, Calls Try.prog 184 #[.string (S l), .int .i64 (i : Int)] wq fun e w' => e = .returned (.int .i64 (j : Int)) ∧ wq = w') := Lib.hid (fun wq => l4Partner_any (S l) i j wq (by rw [L_S]; exact hp) (by rw [S_size]; omega) (by rw [L_S]; exact hj))
  have e1 : IntKind.i64.wrap ((b.size : Int) - 1) = (b.size : Int) - 1 := IntWalk.i64_in _ (by omega)
  clear hb hp hj hbl
  go_enter Try.func45, Try.ntmps45
  go_wp2_with fail
  refine HE.mono ?_; clear HE; rintro e w1 ⟨rfl, b1⟩
  go_wp2_with (go_at_call 185; refine (l1In_yes _ _ _ _ (by omega) (by omega)).mono ?_; rintro e w' ⟨rfl, rfl⟩)
  refine (HPT.out _).mono ?_; rintro e w2 ⟨rfl, rfl⟩
  go_wp2_with fail
  go_ret
  exact ⟨rfl, b1⟩
theorem specPartnerOf_out (b : ByteArray) (l : List UInt8) (i : Int) (w : World) (hb : L b = brk l) (hp : DyckP l) (hi : ¬ (0 ≤ i ∧ i ≤ (b.size : Int) - 1)) :
    Calls Try.prog 45 #[.string b, .int .i64 i] w fun e w' => e = .returned (.int .i64 (-1)) ∧ Below w.heap.size w w' := by
  have HE := specPathOfBrackets_any b l w hb hp
  have hbl := brk_at hb
  have hl16 := hp.1
  have e1 : IntKind.i64.wrap ((b.size : Int) - 1) = (b.size : Int) - 1 := IntWalk.i64_in _ (by omega)
  clear hb hp hbl
  go_enter Try.func45, Try.ntmps45
  go_wp2_with fail
  refine HE.mono ?_; clear HE; rintro e w1 ⟨rfl, b1⟩
  go_wp2_with (go_at_call 185; refine (l1In_no _ _ _ _ hi).mono ?_; rintro e w' ⟨rfl, rfl⟩)
  go_ret
  exact ⟨rfl, b1⟩
theorem specPartnerOf_no (b : ByteArray) (i : Int) (w : World) (hb : b.size ≤ 16) (hn : ¬ BrP (L b)) :
    Calls Try.prog 45 #[.string b, .int .i64 i] w fun e w' => e = .returned (.int .i64 (-1)) ∧ Below w.heap.size w w' := by
  have HE := specPathOfBrackets_no b w hb hn
  clear hn
  go_enter Try.func45, Try.ntmps45
  go_wp2_with fail
  refine HE.mono ?_; clear HE; rintro e w1 ⟨rfl, b1⟩
  go_wp2_with fail
  go_ret
  exact ⟨rfl, b1⟩
theorem implNestedPairs_any (b : ByteArray) (l : List UInt8) (w : World) (hb : L b = brk l) (hp : DyckP l) :
    Calls Try.prog 54 #[.string b] w fun e w' => e = .returned (.int .i64 (areaV l)) ∧ Below w.heap.size w w' := by
  have HE := implPathOfBrackets_any b l w hb hp
  have hl16 := hp.1
  have HA : Hid (∀ wq, Calls Try.prog 55 #[.string (S l)] wq fun e w' => e = .returned (.int .i64 (areaV l)) ∧ Below wq.heap.size wq w') := Lib.hid (fun wq => by have h := implAreaOf_any (S l) wq; rw [L_S] at h; exact h)
  clear hb hp
  go_enter Try.func54, Try.ntmps54
  go_wp2_with fail
  refine HE.mono ?_; clear HE; rintro e w1 ⟨rfl, b1⟩
  go_wp2_with fail
  refine (HA.out _).mono ?_; rintro e w2 ⟨rfl, b2⟩
  go_wp2_with fail
  go_ret
  exact ⟨rfl, below_then b1 b2⟩
theorem implNestedPairs_no (b : ByteArray) (w : World) (hb : b.size ≤ 16) (hn : ¬ BrP (L b)) :
    Calls Try.prog 54 #[.string b] w fun e w' => e = .returned (.int .i64 (-1)) ∧ Below w.heap.size w w' := by
  have HE := implPathOfBrackets_no b w hb hn
  clear hn
  go_enter Try.func54, Try.ntmps54
  go_wp2_with fail
  refine HE.mono ?_; clear HE; rintro e w1 ⟨rfl, b1⟩
  go_wp2_with fail
  go_ret
  exact ⟨rfl, b1⟩
theorem implDepthOf_no (b : ByteArray) (w : World) (hb : b.size ≤ 16) (hn : ¬ BrP (L b)) :
    Calls Try.prog 57 #[.string b] w fun e w' => e = .returned (.int .i64 (-1)) ∧ Below w.heap.size w w' := by
  have HE := implPathOfBrackets_no b w hb hn
  clear hn
  go_enter Try.func57, Try.ntmps57
  go_wp2_with fail
  refine HE.mono ?_; clear HE; rintro e w1 ⟨rfl, b1⟩
  go_wp2_with fail
  go_ret
  exact ⟨rfl, b1⟩
theorem specNestedPairs_any (b : ByteArray) (l : List UInt8) (w : World) (hb : L b = brk l) (hp : DyckP l) :
    Calls Try.prog 59 #[.string b] w fun e w' => e = .returned (.int .i64 (areaV l)) ∧ Below w.heap.size w w' := by
  have HE := specPathOfBrackets_any b l w hb hp
  have hl16 := hp.1
  have HA : Hid (∀ wq, Calls Try.prog 194 #[.string (S l)] wq fun e w' => e = .returned (.int .i64 (areaV l)) ∧ Below wq.heap.size wq w') := Lib.hid (fun wq => by have h := specAreaOf_any (S l) wq (by rw [S_size]; omega); rw [L_S] at h; exact h)
  clear hb hp
  go_enter Try.func59, Try.ntmps59
  go_wp2_with fail
  refine HE.mono ?_; clear HE; rintro e w1 ⟨rfl, b1⟩
  go_wp2_with fail
  refine (HA.out _).mono ?_; rintro e w2 ⟨rfl, b2⟩
  go_wp2_with fail
  go_ret
  exact ⟨rfl, below_then b1 b2⟩
theorem specNestedPairs_no (b : ByteArray) (w : World) (hb : b.size ≤ 16) (hn : ¬ BrP (L b)) :
    Calls Try.prog 59 #[.string b] w fun e w' => e = .returned (.int .i64 (-1)) ∧ Below w.heap.size w w' := by
  have HE := specPathOfBrackets_no b w hb hn
  clear hn
  go_enter Try.func59, Try.ntmps59
  go_wp2_with fail
  refine HE.mono ?_; clear HE; rintro e w1 ⟨rfl, b1⟩
  go_wp2_with fail
  go_ret
  exact ⟨rfl, b1⟩
theorem specDepthOf_no (b : ByteArray) (w : World) (hb : b.size ≤ 16) (hn : ¬ BrP (L b)) :
    Calls Try.prog 58 #[.string b] w fun e w' => e = .returned (.int .i64 (-1)) ∧ Below w.heap.size w w' := by
  have HE := specPathOfBrackets_no b w hb hn
  clear hn
  go_enter Try.func58, Try.ntmps58
  go_wp2_with fail
  refine HE.mono ?_; clear HE; rintro e w1 ⟨rfl, b1⟩
  go_wp2_with fail
  go_ret
  exact ⟨rfl, b1⟩
end Go.Proofs.Ytnkkgfeegaiakaa
