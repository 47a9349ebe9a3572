/- Contracts of PeaksOf, ReturnsOf and AreaOf, the program's and the reference's. No condition but the word's size. -/
import Derived.Test.YtnkkgfeegaiakaaPathHeights
import Derived.Test.YtnkkgfeegaiakaaPlain19
import Derived.Test.YtnkkgfeegaiakaaGround
namespace Go.Proofs.Ytnkkgfeegaiakaa
open Go.RowKit
def peaksV (l : List UInt8) : Int := if DyckP l then ((pkN l l.length : Nat) : Int) else -1
def rtF (l : List UInt8) (x : Nat) : Bool := decide (hN l x = 0)
def rtN (l : List UInt8) (k : Nat) : Nat := cnt k (rtF l)
def returnsV (l : List UInt8) : Int := if DyckP l then ((rtN l (l.length + 1) : Nat) : Int) - 1 else -1
def arN (l : List UInt8) (k : Nat) : Nat := sumTo k (fun i => if isU l i = true then hN l i else 0)
def areaV (l : List UInt8) : Int := if DyckP l then ((arN l l.length : Nat) : Int) else -1
theorem rtN_le (l : List UInt8) (k : Nat) : rtN l k ≤ k := cnt_le _ _
theorem arN_succ (l : List UInt8) (k : Nat) : arN l (k + 1) = arN l k + (if isU l k = true then hN l k else 0) := sumTo_succ _ _
theorem arN_le {l : List UInt8} (h : DyckP l) (k : Nat) (hk : k ≤ l.length) : arN l k ≤ k * 16 := by
  refine sumTo_le fun i hi => ?_
  have := hN_le l h i (by omega)
  have := h.1
  split <;> omega
theorem hoR_get {l : List UInt8} {i : Nat} (hi : i ≤ l.length) : (hL l l.length).getD i 0 = ((hN l i : Nat) : Int) := by
  rw [getD_of (by rw [hL_len]; omega)]
  simp [hL]
theorem extract_two {s : ByteArray} {k : Nat} (h1 : 1 ≤ k) (hk : k < s.size) : (s.extract (k - 1) (k + 1)).toList = [s[k - 1]'(by omega), s[k]] := by
  rw [ByteArray.toList_eq, ByteArray.data_extract, Array.toList_extract, List.extract_eq_take_drop]
  have h2 : k - 1 < s.data.toList.length := by simp; omega
  have h3 : k < s.data.toList.length := by simpa using hk
  rw [List.drop_eq_getElem_cons h2, show k - 1 + 1 = k by omega, List.drop_eq_getElem_cons h3, show k + 1 - (k - 1) = 2 by omega]
  rfl
theorem two_eq {a b c d : UInt8} : ([a, b] == [c, d]) = (decide (a.toNat = c.toNat) && decide (b.toNat = d.toNat)) := by
  have h : ∀ x y : UInt8, (x == y) = decide (x.toNat = y.toNat) := fun x y => by
    by_cases e : x = y
    · subst e; simp
    · rw [decide_eq_false (fun h => e (UInt8.toNat_inj.1 h))]; simpa using e
  simp [h]
theorem pk_test {s : ByteArray} {k : Nat} (h1 : 1 ≤ k) (hk : k < s.size) : ((s.extract (k - 1) (k + 1)).toList == [117, 100]) = pkB (L s) k := by
  rw [extract_two h1 hk, two_eq, pkB_eq (l := L s) h1 (by rw [L_len]; exact hk), L_get s k hk, L_get s (k - 1) (by omega), Bool.and_comm]
  rfl
set_option maxHeartbeats 1000000 in
theorem implPeaksOf_any (s : ByteArray) (w : World) :
    Calls Try.prog 89 #[.string s] w fun e w' => e = .returned (.int .i64 (peaksV (L s))) ∧ Below w.heap.size w w' := by
  have HP0 := implIsDyck_any s w
  by_cases hp : DyckP (L s)
  · have hl16 := hp.1
    rw [L_len] at hl16
    have HV := Lib.hid (show peaksV (L s) = ((pkN (L s) s.size : Nat) : Int) by unfold peaksV; rw [if_pos hp, L_len])
    simp only [decide_eq_true hp] at HP0
    clear hp
    go_enter Try.func89, Try.ntmps89
    go_wp2_with fail
    refine HP0.mono ?_; rintro e w1 ⟨rfl, b1⟩
    go_wp2_with fail
    go_loop [3, 4] (fun n i => ∃ k : Nat, 1 ≤ k ∧ (k ≤ s.size ∨ k = 1) ∧ i = .int .i64 k ∧ n = .int .i64 ((pkN (L s) k : Nat) : Int)) (fun _ i => s.size + 1 - (intOf i).toNat)
    case atStart => exact ⟨1, by omega, by omega, rfl, by rw [pkN_one]; rfl⟩
    case round =>
      obtain ⟨k, h1, hk, rfl, rfl⟩ := hrel
      have hk16 : k ≤ 16 := by omega
      have hpk := pkN_le (L s) k
      by_cases hlt : k < s.size
      · have hlL : k < (L s).length := by rw [L_len]; exact hlt
        have HPS := Lib.hid (pkN_succ (L s) k)
        have HF := Lib.hid (pkB_eq (l := L s) h1 hlL)
        have hg : (L s)[k] = s[k] := L_get s k hlt
        have hg1 : (L s)[k - 1] = s[k - 1] := L_get s (k - 1) (by omega)
        rw [hg, hg1] at HF
        have hk1 : ((k : Int) - 1) = ((k - 1 : Nat) : Int) := by omega
        have hlt1 : k - 1 < s.size := by omega
        clear hg hg1
        by_cases hu : (s[k - 1]'(by omega)).toNat = 117
        · have f2 : ((((s[k - 1]'(by omega)).toNat : Nat) : Int) == 117) = true := by simp; omega
          have g2 : (((s[k - 1]'(by omega)).toNat : Nat) : Int) = 117 := by omega
          by_cases hd : s[k].toNat = 100
          · have f1 : (((s[k].toNat : Nat) : Int) == 100) = true := by simp; omega
            have g1 : ((s[k].toNat : Nat) : Int) = 100 := by omega
            have HN := Lib.hid (show pkN (L s) (k + 1) = pkN (L s) k + 1 by rw [HPS.out, HF.out, decide_eq_true hd, decide_eq_true hu]; rfl)
            clear hu hd
            go_wp2_with fail
            go_round
            case rel => exact ⟨k + 1, by omega, by omega, by go_num, by rw [HN.out]; go_num⟩
            case measure => simp [intOf]; omega
          · have f1 : (((s[k].toNat : Nat) : Int) == 100) = false := by simp; omega
            have g1 : ¬ ((s[k].toNat : Nat) : Int) = 100 := by omega
            have HN := Lib.hid (show pkN (L s) (k + 1) = pkN (L s) k by rw [HPS.out, HF.out, decide_eq_false hd, Bool.false_and]; rfl)
            clear hu hd
            go_wp2_with fail
            go_round
            case rel => exact ⟨k + 1, by omega, by omega, by go_num, by rw [HN.out]⟩
            case measure => simp [intOf]; omega
        · have f2 : ((((s[k - 1]'(by omega)).toNat : Nat) : Int) == 117) = false := by simp; omega
          have g2 : ¬ (((s[k - 1]'(by omega)).toNat : Nat) : Int) = 117 := by omega
          have HN := Lib.hid (show pkN (L s) (k + 1) = pkN (L s) k by rw [HPS.out, HF.out, decide_eq_false hu, Bool.and_false]; rfl)
          clear hu
          go_wp2_with fail
          go_round
          case rel => exact ⟨k + 1, by omega, by omega, by go_num, by rw [HN.out]⟩
          case measure => simp [intOf]; omega
      · have HE : peaksV (L s) = ((pkN (L s) k : Nat) : Int) := by
          rw [HV.out]
          rcases hk with hk | hk
          · rw [show k = s.size by omega]
          · subst hk
            rcases Nat.eq_zero_or_pos s.size with h | h
            · rw [h, pkN_one]; rfl
            · rw [show s.size = 1 by omega]
        have HE1 := Lib.hid HE
        clear HE
        go_wp2_with fail
        go_ret
        exact ⟨ret_int HE1.out.symm, b1⟩
  · simp only [decide_eq_false hp] at HP0
    have HV := Lib.hid (show peaksV (L s) = -1 by unfold peaksV; rw [if_neg hp])
    clear hp
    go_enter Try.func89, Try.ntmps89
    go_wp2_with fail
    refine HP0.mono ?_; rintro e w1 ⟨rfl, b1⟩
    go_wp2_with fail
    go_ret
    exact ⟨ret_int HV.out.symm, b1⟩
end Go.Proofs.Ytnkkgfeegaiakaa
