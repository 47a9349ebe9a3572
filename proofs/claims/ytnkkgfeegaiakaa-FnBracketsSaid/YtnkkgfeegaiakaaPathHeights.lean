/- Contracts of HeightsOf, the program's and the reference's: both return the heights. No condition but the word's size. -/
import Derived.Test.YtnkkgfeegaiakaaPath
import Derived.Test.YtnkkgfeegaiakaaPlain14
namespace Go.Proofs.Ytnkkgfeegaiakaa
open Go.RowKit
def hhB (l : List UInt8) (k : Nat) : List Int := (List.range k).map fun (i : Nat) => ((hN l i : Nat) : Int)
theorem hhB_succ (l : List UInt8) (k : Nat) : hhB l (k + 1) = hhB l k ++ [((hN l k : Nat) : Int)] := by simp [hhB, List.range_succ]
theorem hhB_len (l : List UInt8) (k : Nat) : (hhB l k).length = k := by simp [hhB]
theorem hhB_is (l : List UInt8) (k : Nat) : hhB l (k + 1) = hL l k := rfl
def hoR (l : List UInt8) : List Int := if DyckP l then hL l l.length else []
set_option maxHeartbeats 1000000 in
theorem specHeightsOf_any (s : ByteArray) (w : World) (hs : s.size ≤ 1099511627776) :
    Calls Try.prog 193 #[.string s] w (RetI w (hoR (L s))) := by
  have own0 := OwI.empty_ w w.heap.size (Nat.le_refl _)
  have hB0 : Below w.heap.size w (w.alloc (.cells #[] 3)) := (Below.refl _ _).alloc (Nat.le_refl _) _
  by_cases hp : DyckP (L s)
  · have hl16 := hp.1
    rw [L_len] at hl16
    have HV := Lib.hid (show hoR (L s) = hhB (L s) (s.size + 1) by unfold hoR; rw [if_pos hp, hhB_is, L_len])
    have HD := Lib.hid hp
    have HI : Hid (∀ wq, Calls Try.prog 183 #[.string s] wq fun e w' => e = .returned (.bool true) ∧ wq = w') := fun wq => (specIsDyck_any s wq hs).mono fun e w' h => ⟨by rw [h.1]; simp [hp], h.2⟩
    clear hp
    go_enter Try.func193, Try.ntmps193
    go_wp2_with (go_at_call 183; refine (HI.out _).mono ?_; rintro e w' ⟨rfl, rfl⟩)
    generalize w.alloc (.cells #[] 3) = w0 at own0 hB0 ⊢
    go_loopw [3, 4, 5] (fun v h i wr => ∃ k t : Nat, k ≤ s.size ∧ i = .int .i64 k ∧ h = .int .i64 (t : Int) ∧ t ≤ k ∧ Hid (hN (L s) k = t) ∧ OwI wr w.heap.size v (hhB (L s) k) ∧ Below w.heap.size w wr) (fun _ _ i _ => s.size - (intOf i).toNat)
    case atStart => exact ⟨0, 0, by omega, rfl, rfl, by omega, rfl, own0, hB0⟩
    case round =>
      clear own0 hB0
      obtain ⟨k, t, hk, rfl, rfl, ht, HT, hown, hB⟩ := hrel
      have hsz := hB.size
      have hlen : (hhB (L s) k).length < 1099511627776 := by rw [hhB_len]; omega
      have HS := Lib.hid (show hhB (L s) (k + 1) = hhB (L s) k ++ [(t : Int)] by rw [hhB_succ, HT.out])
      by_cases hlt : k < s.size
      · have hlL : k < (L s).length := by rw [L_len]; exact hlt
        have hg : (L s)[k] = s[k] := L_get s k hlt
        by_cases hu : s[k].toNat = 117
        · have f1 : (((s[k].toNat : Nat) : Int) == 117) = true := by simp; omega
          have HN := Lib.hid (show hN (L s) (k + 1) = t + 1 by rw [hN_up HD.out hlL (by rw [hg]; exact hu), HT.out])
          clear hu hg
          go_wp2_with (at_builtin; refine wpList_appI _ rfl _ _ rfl w.heap.size _ _ rfl hown _ rfl rfl hlen hsz ?_)
          intro v' w1 hown1 hg1 hat1
          have hB1 := below_of_own hB hg1 hsz (fun g hg => (hown.lt g hg).1)
          clear hown hg1 hat1
          go_wp2_with fail
          go_roundw
          case rel => exact ⟨k + 1, t + 1, by omega, by go_num, by go_num, by omega, HN.out, by rw [HS.out]; exact hown1, hB1⟩
          case measure => simp [intOf]; omega
        · have f1 : (((s[k].toNat : Nat) : Int) == 117) = false := by simp; omega
          have hdn := hN_down HD.out hlL (by rw [hg]; exact hu)
          have ht0 : t ≠ 0 := by have := HT.out; omega
          have HN := Lib.hid (show hN (L s) (k + 1) = t - 1 by rw [hdn.2, HT.out])
          clear hu hg hdn
          go_wp2_with (at_builtin; refine wpList_appI _ rfl _ _ rfl w.heap.size _ _ rfl hown _ rfl rfl hlen hsz ?_)
          intro v' w1 hown1 hg1 hat1
          have hB1 := below_of_own hB hg1 hsz (fun g hg => (hown.lt g hg).1)
          clear hown hg1 hat1
          go_wp2_with fail
          go_roundw
          case rel => exact ⟨k + 1, t - 1, by omega, by go_num, by go_num, by omega, HN.out, by rw [HS.out]; exact hown1, hB1⟩
          case measure => simp [intOf]; omega
      · have hke : k = s.size := by omega
        subst hke
        go_wp2_with (at_builtin; refine wpList_appI _ rfl _ _ rfl w.heap.size _ _ rfl hown _ rfl rfl hlen hsz ?_)
        intro v' w1 hown1 hg1 hat1
        have hB1 := below_of_own hB hg1 hsz (fun g hg => (hown.lt g hg).1)
        clear hown hg1 hat1
        go_wp2_with fail
        go_ret
        exact ⟨_, rfl, by rw [HV.out, HS.out]; exact hown1, hB1⟩
  · have HV := Lib.hid (show hoR (L s) = [] by unfold hoR; rw [if_neg hp])
    have HI : Hid (∀ wq, Calls Try.prog 183 #[.string s] wq fun e w' => e = .returned (.bool false) ∧ wq = w') := fun wq => (specIsDyck_any s wq hs).mono fun e w' h => ⟨by rw [h.1]; simp [hp], h.2⟩
    clear hp
    go_enter Try.func193, Try.ntmps193
    go_wp2_with (go_at_call 183; refine (HI.out _).mono ?_; rintro e w' ⟨rfl, rfl⟩)
    go_ret
    exact ⟨_, rfl, by rw [HV.out]; exact own0, hB0⟩
theorem implHeightsOf_any (s : ByteArray) (w : World) :
    Calls Try.prog 192 #[.string s] w (RetI w (hoR (L s))) := by
  have HP0 := implIsDyck_any s w
  by_cases hp : DyckP (L s)
  · have hl16 := hp.1
    rw [L_len] at hl16
    simp only [decide_eq_true hp] at HP0
    have HV := Lib.hid (show hoR (L s) = hL (L s) s.size by unfold hoR; rw [if_pos hp, L_len])
    have HS := Lib.hid hp.2
    clear hp
    go_enter Try.func192, Try.ntmps192
    go_wp2_with fail
    refine HP0.mono ?_; rintro e w1 ⟨rfl, b1⟩
    go_wp2_with fail
    refine (heights_any s _ (by omega)).mono ?_; rintro e w2 ⟨r, rfl, hr, b2⟩
    have o2 := hr HS.out
    go_wp2_with fail
    go_ret
    exact ⟨_, rfl, by rw [HV.out]; exact o2.mono b1.size, below_then b1 b2⟩
  · simp only [decide_eq_false hp] at HP0
    have HV := Lib.hid (show hoR (L s) = [] by unfold hoR; rw [if_neg hp])
    clear hp
    go_enter Try.func192, Try.ntmps192
    go_wp2_with fail
    refine HP0.mono ?_; rintro e w1 ⟨rfl, b1⟩
    go_wp2_with fail
    go_ret
    exact ⟨_, rfl, by rw [HV.out]; exact OwI.empty_ _ _ b1.size, b1.alloc b1.size _⟩
end Go.Proofs.Ytnkkgfeegaiakaa
