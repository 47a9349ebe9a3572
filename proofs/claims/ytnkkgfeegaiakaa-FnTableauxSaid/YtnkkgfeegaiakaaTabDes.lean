/- Contracts of DescentsOfTableau, the program's and the reference's: both return the same slice. No condition. -/
import Derived.Test.YtnkkgfeegaiakaaTabPathImpl
import Derived.Test.YtnkkgfeegaiakaaSSMark
namespace Go.Proofs.Ytnkkgfeegaiakaa
open Go.RowKit
def desF1 (l : List UInt8) (i : Nat) : Bool := decide (1 ≤ i) && (decide ((l.getD (i - 1) 0).toNat = 117) && decide ((l.getD i 0).toNat = 100))
def desL (l : List UInt8) (k : Nat) : List Int := (List.range k).flatMap fun (i : Nat) => if desF1 l i = true then [(i : Int)] else []
theorem desL_one (l : List UInt8) : desL l 1 = [] := by simp [desL, desF1]
theorem desL_hit {l : List UInt8} {k : Nat} (h : desF1 l k = true) : desL l (k + 1) = desL l k ++ [(k : Int)] := by simp [desL, List.range_succ, h]
theorem desL_miss {l : List UInt8} {k : Nat} (h : desF1 l k = false) : desL l (k + 1) = desL l k := by simp [desL, List.range_succ, h]
theorem desL_len (l : List UInt8) (k : Nat) : (desL l k).length ≤ k := by
  induction k with
  | zero => simp [desL]
  | succ k ih =>
    rcases hb : desF1 l k with _ | _
    · rw [desL_miss hb]; omega
    · rw [desL_hit hb]; simp; omega
def desR (t : List (List Int)) : List Int := desL (potR t).1 (potR t).1.length
theorem potR_len (t : List (List Int)) : (potR t).1.length ≤ 16 := by
  unfold potR
  by_cases h : TabP t
  · rw [if_pos h]
    have h8 : (rw_ t 0).length ≤ 8 := h.2.2.1
    show (potL _ _).length ≤ 16
    rw [potL_len]; omega
  · rw [if_neg h]; simp
theorem desF1_eq {s : ByteArray} {k : Nat} (h1 : 1 ≤ k) (hk : k < s.size) : desF1 (L s) k = (decide ((s[k - 1]'(by omega)).toNat = 117) && decide (s[k].toNat = 100)) := by
  unfold desF1
  rw [getD_of (by rw [L_len]; omega), getD_of (by rw [L_len]; omega), L_get s (k - 1) (by omega), L_get s k hk]
  simp [h1]
set_option maxHeartbeats 1000000 in
theorem specDescentsOfTableau_any (v : Value) (t : List (List Int)) (w : World) (hv : RdSS w v t) :
    Calls Try.prog 40 #[v] w (RetI w (desR t)) := by
  have hv0 := hv
  have B1 : Below w.heap.size w (w.alloc (.cells #[] 3)) := (Below.refl _ _).alloc (Nat.le_refl _) _
  have own0 := OwI.empty_ w w.heap.size (Nat.le_refl _)
  have HP0 := specPathOfTableau_any _ _ _ (hv0.below B1)
  obtain ⟨A, c, rfl, hc, hl, _⟩ := hv
  obtain ⟨s, hs⟩ : ∃ s, s = S (potR t).1 := ⟨_, rfl⟩
  have hL : L s = (potR t).1 := by rw [hs, L_S]
  have hR : desR t = desL (L s) s.size := by unfold desR; rw [← hL, L_len]
  have h16 := potR_len t
  rw [← hL, L_len] at h16
  have HE : (potR t).2 = false → s.size = 0 := by
    intro h
    rw [← L_len, hL]
    unfold potR at h ⊢
    by_cases hT : TabP t
    · rw [if_pos hT] at h; cases h
    · rw [if_neg hT]; rfl
  have HR := Lib.hid hR
  have HE := Lib.hid HE
  unfold RetSB at HP0
  rw [← hs] at HP0
  clear hR hL hs
  generalize (potR t).2 = is at *
  go_enter Try.func40, Try.ntmps40
  go_wp2_with fail
  generalize w.alloc (.cells #[] 3) = w1 at *
  refine HP0.mono ?_; rintro e w2 ⟨rfl, b2⟩
  have B2 := below_then B1 b2
  have own2 := own0.below b2
  clear own0 HP0 b2 B1
  rcases is with _ | _
  · have h0 := HE.out rfl
    have HR0 := Lib.hid (show desR t = [] by rw [HR.out, h0]; rfl)
    have h1s : ¬ (1 : Int) < (s.size : Int) := by omega
    have HH0 := Lib.hid h0
    clear h0
    go_wp2_with fail
    refine wp_loop_rounds 1 ?_
    rw [rounds_succ]
    go_wp2_with fail
    go_ret
    exact ⟨_, rfl, by rw [HR0.out]; exact own2, B2⟩
  · clear HE
    go_wp2_with fail
    go_loopw [3, 6] (fun x i wr => ∃ k : Nat, 1 ≤ k ∧ (k ≤ s.size ∨ k = 1) ∧ i = .int .i64 k ∧ OwI wr w.heap.size x (desL (L s) k) ∧ Below w.heap.size w wr) (fun _ i _ => s.size + 1 - (intOf i).toNat)
    case atStart => exact ⟨1, by omega, by omega, rfl, by rw [desL_one]; exact own2, B2⟩
    case round =>
      clear own2 B2
      obtain ⟨k, h1, hk, rfl, hown, hB⟩ := hrel
      have hsz := hB.size
      have hk16 : k ≤ 16 := by omega
      by_cases hlt : k < s.size
      · have HF := Lib.hid (desF1_eq h1 hlt)
        have hlen : (desL (L s) k).length < 1099511627776 := by have := desL_len (L s) k; omega
        have hk1 : ((k : Int) - 1) = ((k - 1 : Nat) : Int) := by omega
        have hlt1 : k - 1 < s.size := by omega
        by_cases hu : (s[k - 1]'(by omega)).toNat = 117
        · have f1 : ((((s[k - 1]'(by omega)).toNat : Nat) : Int) == 117) = true := by simp; omega
          by_cases hd : s[k].toNat = 100
          · have f2 : (((s[k].toNat : Nat) : Int) == 100) = true := by simp; omega
            have HN := Lib.hid (desL_hit (l := L s) (k := k) (by rw [HF.out, decide_eq_true hu, decide_eq_true hd]; rfl))
            clear hu hd
            go_wp2_with (at_builtin; refine wpList_appI _ rfl _ _ rfl w.heap.size _ _ rfl hown _ rfl rfl hlen hsz ?_)
            intro v' w3 hown3 hg3 hat3
            have hB3 := below_of_own hB hg3 hsz (fun g hg => (hown.lt g hg).1)
            clear hown hg3 hat3
            go_wp2_with fail
            go_roundw
            case rel => exact ⟨k + 1, by omega, by omega, by go_num, by rw [HN.out]; exact hown3, hB3⟩
            case measure => simp [intOf]; omega
          · have f2 : (((s[k].toNat : Nat) : Int) == 100) = false := by simp; omega
            have HN := Lib.hid (desL_miss (l := L s) (k := k) (by rw [HF.out, decide_eq_false hd, Bool.and_false]))
            clear hu hd
            go_wp2_with fail
            go_roundw
            case rel => exact ⟨k + 1, by omega, by omega, by go_num, by rw [HN.out]; exact hown, hB⟩
            case measure => simp [intOf]; omega
        · have f1 : ((((s[k - 1]'(by omega)).toNat : Nat) : Int) == 117) = false := by simp; omega
          have HN := Lib.hid (desL_miss (l := L s) (k := k) (by rw [HF.out, decide_eq_false hu, Bool.false_and]))
          clear hu
          go_wp2_with fail
          go_roundw
          case rel => exact ⟨k + 1, by omega, by omega, by go_num, by rw [HN.out]; exact hown, hB⟩
          case measure => simp [intOf]; omega
      · have HE : desR t = desL (L s) k := by
          rw [HR.out]
          rcases hk with hk | hk
          · rw [show k = s.size by omega]
          · subst hk
            rcases Nat.eq_zero_or_pos s.size with h | h
            · rw [h, desL_one]; rfl
            · rw [show s.size = 1 by omega]
        have HE := Lib.hid HE
        go_wp2_with fail
        go_ret
        exact ⟨_, rfl, by rw [HE.out]; exact hown, hB⟩
set_option maxHeartbeats 1000000 in
theorem implDescentsOfTableau_any (v : Value) (t : List (List Int)) (w : World) (hv : RdSS w v t) :
    Calls Try.prog 39 #[v] w (RetI w (desR t)) := by
  have hv0 := hv
  have B1 : Below w.heap.size w (w.alloc (.cells #[] 3)) := (Below.refl _ _).alloc (Nat.le_refl _) _
  have own0 := OwI.empty_ w w.heap.size (Nat.le_refl _)
  have HP0 := implPathOfTableau_any _ _ _ (hv0.below B1)
  obtain ⟨A, c, rfl, hc, hl, _⟩ := hv
  obtain ⟨s, hs⟩ : ∃ s, s = S (potR t).1 := ⟨_, rfl⟩
  have hL : L s = (potR t).1 := by rw [hs, L_S]
  have hR : desR t = desL (L s) s.size := by unfold desR; rw [← hL, L_len]
  have h16 := potR_len t
  rw [← hL, L_len] at h16
  have HE : (potR t).2 = false → s.size = 0 := by
    intro h
    rw [← L_len, hL]
    unfold potR at h ⊢
    by_cases hT : TabP t
    · rw [if_pos hT] at h; cases h
    · rw [if_neg hT]; rfl
  have HR := Lib.hid hR
  have HE := Lib.hid HE
  unfold RetSB at HP0
  rw [← hs] at HP0
  clear hR hL hs
  generalize (potR t).2 = is at *
  go_enter Try.func39, Try.ntmps39
  go_wp2_with fail
  generalize w.alloc (.cells #[] 3) = w1 at *
  refine HP0.mono ?_; rintro e w2 ⟨rfl, b2⟩
  have B2 := below_then B1 b2
  have own2 := own0.below b2
  clear own0 HP0 b2 B1
  rcases is with _ | _
  · have h0 := HE.out rfl
    have HR0 := Lib.hid (show desR t = [] by rw [HR.out, h0]; rfl)
    have h1s : ¬ (1 : Int) < (s.size : Int) := by omega
    have HH0 := Lib.hid h0
    clear h0
    go_wp2_with fail
    go_ret
    exact ⟨_, rfl, by rw [HR0.out]; exact own2, B2⟩
  · clear HE
    go_wp2_with fail
    go_loopw [3, 6] (fun x i wr => ∃ k : Nat, 1 ≤ k ∧ (k ≤ s.size ∨ k = 1) ∧ i = .int .i64 k ∧ OwI wr w.heap.size x (desL (L s) k) ∧ Below w.heap.size w wr) (fun _ i _ => s.size + 1 - (intOf i).toNat)
    case atStart => exact ⟨1, by omega, by omega, rfl, by rw [desL_one]; exact own2, B2⟩
    case round =>
      clear own2 B2
      obtain ⟨k, h1, hk, rfl, hown, hB⟩ := hrel
      have hsz := hB.size
      have hk16 : k ≤ 16 := by omega
      by_cases hlt : k < s.size
      · have HF := Lib.hid (desF1_eq h1 hlt)
        have hlen : (desL (L s) k).length < 1099511627776 := by have := desL_len (L s) k; omega
        have hk1 : ((k : Int) - 1) = ((k - 1 : Nat) : Int) := by omega
        have hlt1 : k - 1 < s.size := by omega
        by_cases hu : (s[k - 1]'(by omega)).toNat = 117
        · have f1 : ((((s[k - 1]'(by omega)).toNat : Nat) : Int) == 117) = true := by simp; omega
          by_cases hd : s[k].toNat = 100
          · have f2 : (((s[k].toNat : Nat) : Int) == 100) = true := by simp; omega
            have HN := Lib.hid (desL_hit (l := L s) (k := k) (by rw [HF.out, decide_eq_true hu, decide_eq_true hd]; rfl))
            clear hu hd
            go_wp2_with (at_builtin; refine wpList_appI _ rfl _ _ rfl w.heap.size _ _ rfl hown _ rfl rfl hlen hsz ?_)
            intro v' w3 hown3 hg3 hat3
            have hB3 := below_of_own hB hg3 hsz (fun g hg => (hown.lt g hg).1)
            clear hown hg3 hat3
            go_wp2_with fail
            go_roundw
            case rel => exact ⟨k + 1, by omega, by omega, by go_num, by rw [HN.out]; exact hown3, hB3⟩
            case measure => simp [intOf]; omega
          · have f2 : (((s[k].toNat : Nat) : Int) == 100) = false := by simp; omega
            have HN := Lib.hid (desL_miss (l := L s) (k := k) (by rw [HF.out, decide_eq_false hd, Bool.and_false]))
            clear hu hd
            go_wp2_with fail
            go_roundw
            case rel => exact ⟨k + 1, by omega, by omega, by go_num, by rw [HN.out]; exact hown, hB⟩
            case measure => simp [intOf]; omega
        · have f1 : ((((s[k - 1]'(by omega)).toNat : Nat) : Int) == 117) = false := by simp; omega
          have HN := Lib.hid (desL_miss (l := L s) (k := k) (by rw [HF.out, decide_eq_false hu, Bool.false_and]))
          clear hu
          go_wp2_with fail
          go_roundw
          case rel => exact ⟨k + 1, by omega, by omega, by go_num, by rw [HN.out]; exact hown, hB⟩
          case measure => simp [intOf]; omega
      · have HE : desR t = desL (L s) k := by
          rw [HR.out]
          rcases hk with hk | hk
          · rw [show k = s.size by omega]
          · subst hk
            rcases Nat.eq_zero_or_pos s.size with h | h
            · rw [h, desL_one]; rfl
            · rw [show s.size = 1 by omega]
        have HE := Lib.hid HE
        go_wp2_with fail
        go_ret
        exact ⟨_, rfl, by rw [HE.out]; exact hown, hB⟩
end Go.Proofs.Ytnkkgfeegaiakaa
