/- Contracts of FormatInt, the program's and the reference's, at numbers from 0 to 19. No condition but that. -/
import Derived.Test.YtnkkgfeegaiakaaGround
namespace Go.Proofs.Ytnkkgfeegaiakaa
open Go.RowKit
/-- a digit's byte -/
def dgc (k : Nat) : UInt8 := UInt8.ofNat (48 + k)
theorem dgc_nat {k : Nat} (h : k < 10) : (dgc k).toNat = 48 + k := by
  unfold dgc
  rw [UInt8.toNat_ofNat']
  omega
theorem dgc_int {k : Nat} (h : k < 10) : ((dgc k).toNat : Int) = 48 + (k : Int) := by rw [dgc_nat h]; simp
/-- the digits of a number below 20 -/
def dgt (n : Nat) : List UInt8 := if n < 10 then [dgc n] else [dgc 1, dgc (n - 10)]
theorem dgt_len (n : Nat) : (dgt n).length ≤ 2 := by unfold dgt; split <;> simp
def RetS (w : World) (R : List UInt8) (e : Ending) (w' : World) : Prop := e = .returned (.string (S R)) ∧ Below w.heap.size w w'
theorem RetS.mk {w w' : World} {R : List UInt8} {s : ByteArray} (hs : s = S R) (hb : Below w.heap.size w w') : RetS w R (.returned (.string s)) w' := by
  subst hs; exact ⟨rfl, hb⟩
theorem bf_digit {k : Nat} (h : k < 10) : bf (dgc k) = .int .u8 (48 + (k : Int)) := by unfold bf; rw [dgc_int h]
theorem conv_digit (w : World) {k : Nat} (h : k < 10) {n : Int} (hn : n = 48 + (k : Int)) :
    (convert 31 9 (.slice (some ⟨w.heap.size, 0, none⟩) 1 1)).run Try.prog (w.alloc (.cells #[.int .u8 n] 5)) = .ok (.string (S [dgc k])) (w.alloc (.cells #[.int .u8 n] 5)) := by
  subst hn
  have o := OwR.lit (e := 5) (f := bf) w [dgc k] w.heap.size (Nat.le_refl _) (by simp)
  have k := conv_row o
  simp only [List.map_cons, List.map_nil, bf_digit h] at k
  exact k
set_option maxRecDepth 8000 in
theorem specFormatInt_any (n : Nat) (w : World) (h : n < 20) :
    Calls Try.prog 210 #[.int .i64 n] w (RetS w (dgt n)) := by
  obtain ⟨X, hX⟩ : ∃ X : Int, X = (n : Int) := ⟨_, rfl⟩
  rw [← hX]
  have x0 : 0 ≤ X := by omega
  have x1 : X < 20 := by omega
  have xn : decide (X < 0) = false := decide_eq_false (by omega)
  rcases Nat.eq_zero_or_pos n with h0 | h0
  · subst h0
    subst hX
    go_enter Try.func210, Try.ntmps210
    go_wp2_with fail
    go_ret
    exact RetS.mk rfl (Below.refl _ _)
  · have f0 : (X == 0) = false := beq_eq_false_iff_ne.2 (by omega)
    have f1 : (X != 0) = true := bne_iff_ne.2 (by omega)
    rcases Nat.lt_or_ge n 10 with h10 | h10
    · have f3 : X.tmod 10 = X := by rw [Int.tmod_eq_emod_of_nonneg (by omega)]; omega
      have f4 : X.tdiv 10 = 0 := by rw [Int.tdiv_eq_ediv_of_nonneg (by omega)]; omega
      have kc := conv_digit w h10 (n := 48 + X) (by omega)
      have HD := Lib.hid (show S [dgc n] ++ ⟨#[]⟩ = S (dgt n) by unfold dgt; rw [if_pos h10]; rfl)
      have HB : Below w.heap.size w (w.alloc (.cells #[.int .u8 (48 + X)] 5)) := (Below.refl _ _).alloc (Nat.le_refl _) _
      have hsz : (S [dgc n]).size ≤ 1000 := by rw [S_size]; simp
      clear hX
      go_enter Try.func210, Try.ntmps210
      go_wp2_with fail
      refine wp_loop_rounds 2 ?_
      rw [rounds_succ]
      go_wp2_with fail
      rw [rounds_succ]
      go_wp2_with fail
      go_ret
      exact RetS.mk HD.out HB
    · obtain ⟨m, rfl⟩ : ∃ m, n = m + 10 := ⟨n - 10, by omega⟩
      have hm : m < 10 := by omega
      obtain ⟨Y, hY⟩ : ∃ Y : Int, Y = (m : Int) := ⟨_, rfl⟩
      have y0 : 0 ≤ Y := by omega
      have y1 : Y < 10 := by omega
      have f3 : X.tmod 10 = Y := by rw [Int.tmod_eq_emod_of_nonneg (by omega)]; omega
      have f4 : X.tdiv 10 = 1 := by rw [Int.tdiv_eq_ediv_of_nonneg (by omega)]; omega
      have kc := conv_digit w hm (n := 48 + Y) (by omega)
      have kc1 := conv_digit (w.alloc (.cells #[.int .u8 (48 + Y)] 5)) (show 1 < 10 by omega) (n := 49) (by omega)
      have HD := Lib.hid (show S [dgc 1] ++ (S [dgc m] ++ ⟨#[]⟩) = S (dgt (m + 10)) by unfold dgt; rw [if_neg (by omega), Nat.add_sub_cancel]; rfl)
      have HB1 : Below w.heap.size w (w.alloc (.cells #[.int .u8 (48 + Y)] 5)) := (Below.refl _ _).alloc (Nat.le_refl _) _
      have HB := HB1.alloc HB1.size (.cells #[.int .u8 49] 5)
      have hsz : (S [dgc m]).size ≤ 1000 := by rw [S_size]; simp
      have hsz1 : (S [dgc 1]).size ≤ 1000 := by rw [S_size]; simp
      have hsz2 : (S [dgc m] ++ ⟨#[]⟩ : ByteArray).size ≤ 1000 := by rw [ByteArray.size_append, S_size]; show 1 + 0 ≤ 1000; omega
      have hz1 : (w.alloc (.cells #[.int .u8 (48 + Y)] 5)).heap.size = w.heap.size + 1 := by simp
      rw [hz1] at kc1
      clear hX hY hz1
      go_enter Try.func210, Try.ntmps210
      go_wp2_with fail
      refine wp_loop_rounds 3 ?_
      rw [rounds_succ]
      go_wp2_with fail
      rw [rounds_succ]
      go_wp2_with fail
      rw [rounds_succ]
      go_wp2_with fail
      go_ret
      exact RetS.mk HD.out HB
set_option maxRecDepth 8000 in
set_option maxHeartbeats 1000000 in
theorem implFormatInt_any (n : Nat) (w : World) (h : n < 20) :
    Calls Try.prog 208 #[.int .i64 n] w (RetS w (dgt n)) := by
  obtain ⟨X, hX⟩ : ∃ X : Int, X = (n : Int) := ⟨_, rfl⟩
  rw [← hX]
  have x0 : 0 ≤ X := by omega
  have x1 : X < 20 := by omega
  have xn : decide (X < 0) = false := decide_eq_false (by omega)
  rcases Nat.eq_zero_or_pos n with h0 | h0
  · subst h0
    subst hX
    go_enter Try.func208, Try.ntmps208
    go_wp2_with fail
    go_ret
    exact RetS.mk rfl (Below.refl _ _)
  · have f0 : (X == 0) = false := beq_eq_false_iff_ne.2 (by omega)
    have f1 : (X != 0) = true := bne_iff_ne.2 (by omega)
    have own0 := OwR.emptyB w w.heap.size (Nat.le_refl _)
    have B0 : Below w.heap.size w (w.alloc (.cells #[] 5)) := (Below.refl _ _).alloc (Nat.le_refl _) _
    rcases Nat.lt_or_ge n 10 with h10 | h10
    · have f3 : X.tmod 10 = X := by rw [Int.tmod_eq_emod_of_nonneg (by omega)]; omega
      have f4 : X.tdiv 10 = 0 := by rw [Int.tdiv_eq_ediv_of_nonneg (by omega)]; omega
      have HD := Lib.hid (show S [dgc n] = S (dgt n) by unfold dgt; rw [if_pos h10])
      have HX := Lib.hid hX
      clear hX
      go_enter Try.func208, Try.ntmps208
      go_wp2_with fail
      generalize w.alloc (.cells #[] 5) = w0 at *
      have hs0 := B0.size
      refine wp_loop_rounds 2 ?_
      rw [rounds_succ]
      go_wp2_with (at_builtin; refine wpList_appB _ rfl _ _ rfl w.heap.size _ _ rfl own0 (dgc n) _ (by rw [dgc_int h10]; have := HX.out; omega) rfl rfl (by simp) hs0 ?_)
      intro v1 w1 own1 g1 a1
      have B1 := below_of_own B0 g1 hs0 (fun g hg => (own0.lt g hg).1)
      rcases own1.shape with ⟨_, e⟩ | ⟨g, cap, rfl, _, _⟩
      · simp at e
      · have own1 : OwR 5 bf w1 w.heap.size (.slice (some ⟨g, 0, none⟩) 1 cap) [dgc n] := own1
        have kc := conv_row own1
        rw [HD.out] at kc
        clear own0 own1 g1 a1
        go_wp2_with fail
        rw [rounds_succ]
        go_wp2_with fail
        refine wp_loop_rounds 1 ?_
        rw [rounds_succ]
        go_wp2_with fail
        go_ret
        exact RetS.mk rfl B1
    · obtain ⟨m, rfl⟩ : ∃ m, n = m + 10 := ⟨n - 10, by omega⟩
      have hm : m < 10 := by omega
      obtain ⟨Y, hY⟩ : ∃ Y : Int, Y = (m : Int) := ⟨_, rfl⟩
      have y0 : 0 ≤ Y := by omega
      have y1 : Y < 10 := by omega
      have f3 : X.tmod 10 = Y := by rw [Int.tmod_eq_emod_of_nonneg (by omega)]; omega
      have f4 : X.tdiv 10 = 1 := by rw [Int.tdiv_eq_ediv_of_nonneg (by omega)]; omega
      have HD := Lib.hid (show S [dgc 1, dgc m] = S (dgt (m + 10)) by unfold dgt; rw [if_neg (by omega), Nat.add_sub_cancel])
      have HX := Lib.hid hX
      have HY := Lib.hid hY
      clear hX hY
      go_enter Try.func208, Try.ntmps208
      go_wp2_with fail
      generalize w.alloc (.cells #[] 5) = w0 at *
      have hs0 := B0.size
      refine wp_loop_rounds 3 ?_
      rw [rounds_succ]
      go_wp2_with (at_builtin; refine wpList_appB _ rfl _ _ rfl w.heap.size _ _ rfl own0 (dgc m) _ (by rw [dgc_int hm]; have := HY.out; omega) rfl rfl (by simp) hs0 ?_)
      intro v1 w1 own1 g1 a1
      have B1 := below_of_own B0 g1 hs0 (fun g hg => (own0.lt g hg).1)
      clear own0 g1 a1
      have hs1 := B1.size
      go_wp2_with fail
      rw [rounds_succ]
      go_wp2_with (at_builtin; refine wpList_appB _ rfl _ _ rfl w.heap.size _ _ rfl own1 (dgc 1) _ (by rw [dgc_int (by omega)]; rfl) rfl rfl (by simp) hs1 ?_)
      intro v2 w2 own2 g2 a2
      have B2 := below_of_own B1 g2 hs1 (fun g hg => (own1.lt g hg).1)
      rcases own2.shape with ⟨_, e⟩ | ⟨g, cap, rfl, hgb, _⟩
      · simp at e
      · clear own1 g2 a2
        have own2 : OwR 5 bf w2 w.heap.size (.slice (some ⟨g, 0, none⟩) 2 cap) [dgc m, dgc 1] := own2
        have c0 := own2.cellAt 0 (by simp)
        have c1 := own2.cellAt 1 (by simp)
        have z0 := own2.frozenAt 0
        have z1 := own2.frozenAt 1
        simp only [List.getElem_cons_zero, List.getElem_cons_succ] at c0 c1
        have own3 := (own2.stored 0 (dgc 1)).1
        have own4 := (own3.stored 1 (dgc m)).1
        have kc := conv_row (w := World.drew _) (own4.drewN 1)
        simp only [List.set_cons_zero, List.set_cons_succ] at kc
        rw [HD.out] at kc
        have B4 : Below w.heap.size w ((w2.setCell ⟨g, 0, none⟩ (bf (dgc 1))).setCell ⟨g, 1, none⟩ (bf (dgc m))) := (B2.setCell hgb _).setCell hgb _
        clear own3 own4
        have hd1 : bf (dgc 1) = .int .u8 49 := bf_digit (show 1 < 10 by omega)
        simp only [bf_digit hm, hd1] at c0 c1 kc B4
        clear hd1
        go_wp2_with fail
        rw [rounds_succ]
        go_wp2_with fail
        refine wp_loop_rounds 2 ?_
        rw [rounds_succ]
        go_wp2_with fail
        go_region
        all_goals (
          go_wp2_with fail
          rw [rounds_succ]
          go_wp2_with fail
          go_ret
          exact RetS.mk rfl (below_drewN B4 1))
end Go.Proofs.Ytnkkgfeegaiakaa
