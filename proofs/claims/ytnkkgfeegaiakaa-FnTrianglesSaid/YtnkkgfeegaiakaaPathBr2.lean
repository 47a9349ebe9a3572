/- Contracts of BracketsOf and PathOfBrackets at words that are no path and no path's brackets. Condition: a short word. -/
import Derived.Test.YtnkkgfeegaiakaaPlain36
namespace Go.Proofs.Ytnkkgfeegaiakaa
open Go.RowKit
theorem unb_succ {l : List UInt8} {k : Nat} (h : k < l.length) : unb (l.take (k + 1)) = unb (l.take k) ++ [unC l[k]] := by
  unfold unb
  rw [List.take_succ_eq_append_getElem h, List.map_append]; rfl
theorem all_succ {l : List UInt8} {k : Nat} (h : k < l.length) (f : UInt8 → Bool) : (l.take (k + 1)).all f = ((l.take k).all f && f l[k]) := by
  rw [List.take_succ_eq_append_getElem h, List.all_append]; simp
theorem all_bad {l : List UInt8} {k : Nat} (h : k < l.length) {f : UInt8 → Bool} (hf : f l[k] = false) : l.all f = false := by
  rw [Bool.eq_false_iff]
  intro q
  have := List.all_eq_true.1 q l[k] (List.getElem_mem h)
  rw [hf] at this; cases this
theorem isB_no {c : UInt8} (h1 : ¬ c.toNat = 40) (h2 : ¬ c.toNat = 41) : isB c = false := by unfold isB; simp [h1, h2]
theorem isB_40 {c : UInt8} (h : c.toNat = 40) : isB c = true := by unfold isB; simp [h]
theorem isB_41 {c : UInt8} (h : c.toNat = 41) : isB c = true := by unfold isB; simp [h]
theorem unC_40 {c : UInt8} (h : c.toNat = 40) : unC c = 117 := by unfold unC; rw [if_pos h]
theorem unC_41 {c : UInt8} (h : c.toNat = 41) : unC c = 100 := by unfold unC; rw [if_neg (by omega)]
def exB (l : List UInt8) : List UInt8 × Bool := if l.all isB = true then (unb l, true) else ([], false)
set_option maxHeartbeats 1000000 in
theorem specPathOfBrackets_no (b : ByteArray) (w : World) (hb : b.size ≤ 16) (hn : ¬ BrP (L b)) :
    Calls Try.prog 49 #[.string b] w (RetSB w ([], false)) := by
  have HN := Lib.hid hn
  have HF := Lib.hid (show unb ((L b).take b.size) = unb (L b) ∧ ((L b).take b.size).all isB = (L b).all isB by rw [← L_len, List.take_length]; exact ⟨rfl, rfl⟩)
  clear hn
  go_enter Try.func49, Try.ntmps49
  go_wp2_with fail
  go_loop [4, 5] (fun x i => ∃ k : Nat, k ≤ b.size ∧ i = .int .i64 k ∧ x = .string (S (unb ((L b).take k))) ∧ Hid (((L b).take k).all isB = true)) (fun _ i => b.size - (intOf i).toNat)
  case atStart => exact ⟨0, by omega, rfl, rfl, rfl⟩
  case round =>
    obtain ⟨k, hk, rfl, rfl, HA⟩ := hrel
    by_cases hlt : k < b.size
    · have hkl : k < (L b).length := by rw [L_len]; exact hlt
      have HS := Lib.hid (unb_succ hkl)
      have HT := Lib.hid (all_succ hkl isB)
      have hsz : (S (unb ((L b).take k))).size ≤ 16 := by rw [S_size, unb_len, List.length_take]; omega
      have hg : (L b)[k] = b[k] := L_get b k hlt
      by_cases hu : b[k].toNat = 40
      · have f1 : (((b[k].toNat : Nat) : Int) == 40) = true := beq_iff_eq.2 (by omega)
        have HC := Lib.hid (show S (unb ((L b).take k)) ++ ⟨#[117]⟩ = S (unb ((L b).take (k + 1))) by rw [S_snoc, HS.out, hg, unC_40 hu])
        have HB := Lib.hid (show ((L b).take (k + 1)).all isB = true by rw [HT.out, HA.out, hg, isB_40 hu]; rfl)
        clear hu hg HS HT
        go_wp2_with fail
        go_round
        case rel => exact ⟨k + 1, by omega, by go_num, by rw [HC.out], HB.out⟩
        case measure => simp [intOf]; omega
      · have f1 : (((b[k].toNat : Nat) : Int) == 40) = false := beq_eq_false_iff_ne.2 (by omega)
        by_cases hv : b[k].toNat = 41
        · have f2 : (((b[k].toNat : Nat) : Int) == 41) = true := beq_iff_eq.2 (by omega)
          have HC := Lib.hid (show S (unb ((L b).take k)) ++ ⟨#[100]⟩ = S (unb ((L b).take (k + 1))) by rw [S_snoc, HS.out, hg, unC_41 hv])
          have HB := Lib.hid (show ((L b).take (k + 1)).all isB = true by rw [HT.out, HA.out, hg, isB_41 hv]; rfl)
          clear hu hv hg HS HT
          go_wp2_with fail
          go_round
          case rel => exact ⟨k + 1, by omega, by go_num, by rw [HC.out], HB.out⟩
          case measure => simp [intOf]; omega
        · have f2 : (((b[k].toNat : Nat) : Int) == 41) = false := beq_eq_false_iff_ne.2 (by omega)
          clear hu hv hg HS HT
          go_wp2_with fail
          go_ret2
          exact RetSB.mk rfl rfl (Below.refl _ _)
    · have hke : k = b.size := by omega
      subst hke
      rw [HF.out.1]
      have HD := Lib.hid (show ¬ DyckP (unb (L b)) from fun q => HN.out ⟨by rw [← HF.out.2]; exact HA.out, q⟩)
      have HI : Hid (∀ wq, Calls Try.prog 183 #[.string (S (unb (L b)))] wq fun e w' => e = .returned (.bool false) ∧ wq = w') := fun wq => (specIsDyck_any _ wq (by rw [S_size, unb_len, L_len]; omega)).mono fun e w' h => ⟨by rw [h.1, L_S, decide_eq_false HD.out], h.2⟩
      go_wp2_with (go_at_call 183; refine (HI.out _).mono ?_; rintro e w' ⟨rfl, rfl⟩)
      go_ret2
      exact RetSB.mk rfl rfl (Below.refl _ _)
theorem specBracketsOf_no (s : ByteArray) (w : World) (hs : s.size ≤ 1000) (hp : ¬ DyckP (L s)) :
    Calls Try.prog 50 #[.string s] w (RetSB w ([], false)) := by
  have HI : Hid (∀ wq, Calls Try.prog 183 #[.string s] wq fun e w' => e = .returned (.bool false) ∧ wq = w') := fun wq => (specIsDyck_any s wq (by omega)).mono fun e w' h => ⟨by rw [h.1]; simp [hp], h.2⟩
  clear hp
  by_cases h0 : 0 < s.size
  all_goals (
    go_enter Try.func50, Try.ntmps50
    go_wp2_with fail
    refine wp_loop_rounds 1 ?_
    rw [rounds_succ]
    go_wp2_with (go_at_call 183; refine (HI.out _).mono ?_; rintro e w' ⟨rfl, rfl⟩)
    go_ret2
    exact RetSB.mk rfl rfl (Below.refl _ _))
set_option maxRecDepth 100000 in
set_option maxHeartbeats 1000000 in
theorem implExch_all (b : ByteArray) (w : World) (f t : ByteArray) (hf : f.size = 2) (ht : t.size = 2) (hf0 : f[0].toNat = 40) (hf1 : f[1].toNat = 41) (ht0 : t[0].toNat = 117) (ht1 : t[1].toNat = 100) (hb : b.size ≤ 16) :
    Calls Try.prog 191 #[.string b, .string f, .string t] w (RetSB w (exB (L b))) := by
  have HF := Lib.hid (show unb ((L b).take b.size) = unb (L b) ∧ ((L b).take b.size).all isB = (L b).all isB by rw [← L_len, List.take_length]; exact ⟨rfl, rfl⟩)
  go_enter Try.func191, Try.ntmps191
  go_wp2_with fail
  have own0 := OwR.emptyB w w.heap.size (Nat.le_refl _)
  have hB0 : Below w.heap.size w (w.alloc (.cells #[] 5)) := (Below.refl _ _).alloc (Nat.le_refl _) _
  go_wp2_with fail
  generalize w.alloc (.cells #[] 5) = w2 at own0 hB0 ⊢
  go_loopw [8, 9] (fun x i wr => ∃ k : Nat, k ≤ b.size ∧ i = .int .i64 k ∧ OwR 5 bf wr w.heap.size x (unb ((L b).take k)) ∧ Hid (((L b).take k).all isB = true) ∧ Below w.heap.size w wr) (fun _ i _ => b.size - (intOf i).toNat)
  case atStart => exact ⟨0, by omega, rfl, own0, rfl, hB0⟩
  case round =>
    clear own0 hB0
    obtain ⟨k, hk, rfl, hx, HA, hB⟩ := hrel
    have hsz := hB.size
    by_cases hlt : k < b.size
    · have hkl : k < (L b).length := by rw [L_len]; exact hlt
      have HS := Lib.hid (unb_succ hkl)
      have HT := Lib.hid (all_succ hkl isB)
      have hlen : (unb ((L b).take k)).length < 1099511627776 := by rw [unb_len, List.length_take]; omega
      have hg : (L b)[k] = b[k] := L_get b k hlt
      by_cases hu : b[k].toNat = 40
      · have f1 : (((b[k].toNat : Nat) : Int) == 40) = true := beq_iff_eq.2 (by omega)
        have HC := Lib.hid (show unb ((L b).take (k + 1)) = unb ((L b).take k) ++ [117] by rw [HS.out, hg, unC_40 hu])
        have HB := Lib.hid (show ((L b).take (k + 1)).all isB = true by rw [HT.out, HA.out, hg, isB_40 hu]; rfl)
        clear hu hg HS HT
        go_wp2_with (at_builtin; refine wpList_appB _ rfl _ _ rfl w.heap.size _ _ rfl hx 117 _ (by first | rfl | (rw [ht0]; rfl) | simp [ht0]) rfl rfl hlen hsz ?_)
        intro v' w3 hx3 hg3 hat3
        have hB3 := below_of_own hB hg3 hsz (fun g hg => (hx.lt g hg).1)
        clear hx hg3 hat3
        go_wp2_with fail
        go_roundw
        case rel => exact ⟨k + 1, by omega, by go_num, by rw [HC.out]; exact hx3, HB.out, hB3⟩
        case measure => simp [intOf]; omega
      · have f1 : (((b[k].toNat : Nat) : Int) == 40) = false := beq_eq_false_iff_ne.2 (by omega)
        by_cases hv : b[k].toNat = 41
        · have f2 : (((b[k].toNat : Nat) : Int) == 41) = true := beq_iff_eq.2 (by omega)
          have HC := Lib.hid (show unb ((L b).take (k + 1)) = unb ((L b).take k) ++ [100] by rw [HS.out, hg, unC_41 hv])
          have HB := Lib.hid (show ((L b).take (k + 1)).all isB = true by rw [HT.out, HA.out, hg, isB_41 hv]; rfl)
          clear hu hv hg HS HT
          go_wp2_with (at_builtin; refine wpList_appB _ rfl _ _ rfl w.heap.size _ _ rfl hx 100 _ (by first | rfl | (rw [ht1]; rfl) | simp [ht1]) rfl rfl hlen hsz ?_)
          intro v' w3 hx3 hg3 hat3
          have hB3 := below_of_own hB hg3 hsz (fun g hg => (hx.lt g hg).1)
          clear hx hg3 hat3
          go_wp2_with fail
          go_roundw
          case rel => exact ⟨k + 1, by omega, by go_num, by rw [HC.out]; exact hx3, HB.out, hB3⟩
          case measure => simp [intOf]; omega
        · have f2 : (((b[k].toNat : Nat) : Int) == 41) = false := beq_eq_false_iff_ne.2 (by omega)
          have HE := Lib.hid (show exB (L b) = ([], false) by unfold exB; rw [all_bad hkl (by rw [hg]; exact isB_no hu hv)]; rfl)
          clear hu hv hg HS HT
          go_wp2_with fail
          go_ret2
          exact RetSB.mk HE.out rfl hB
    · have hke : k = b.size := by omega
      subst hke
      rw [HF.out.1] at hx
      have HE := Lib.hid (show exB (L b) = (unb (L b), true) by unfold exB; rw [← HF.out.2, if_pos HA.out])
      have kc := conv_row hx
      go_wp2_with fail
      go_ret2
      exact RetSB.mk HE.out rfl hB
set_option maxHeartbeats 1000000 in
theorem implPathOfBrackets_no (b : ByteArray) (w : World) (hb : b.size ≤ 16) (hn : ¬ BrP (L b)) :
    Calls Try.prog 53 #[.string b] w (RetSB w ([], false)) := by
  have HE := implExch_all b w ⟨#[40, 41]⟩ ⟨#[117, 100]⟩ rfl rfl rfl rfl rfl rfl hb
  by_cases ha : (L b).all isB = true
  · have hd : ¬ DyckP (unb (L b)) := fun q => hn ⟨ha, q⟩
    rw [show exB (L b) = (unb (L b), true) by unfold exB; rw [if_pos ha]] at HE
    have HP : Hid (∀ wq, Calls Try.prog 182 #[.string (S (unb (L b)))] wq fun e w' => e = .returned (.bool false) ∧ Below wq.heap.size wq w') := Lib.hid (fun wq => by have h := implIsDyck_any (S (unb (L b))) wq; simp only [L_S, decide_eq_false hd] at h; exact h)
    clear hd hn ha
    go_enter Try.func53, Try.ntmps53
    go_wp2_with fail
    refine HE.mono ?_; rintro e w1 ⟨rfl, b1⟩
    go_wp2_with fail
    refine (HP.out _).mono ?_; rintro e w2 ⟨rfl, b2⟩
    have B2 := below_then b1 b2
    go_wp2_with fail
    go_ret2
    exact RetSB.mk rfl rfl B2
  · rw [show exB (L b) = ([], false) by unfold exB; rw [if_neg ha]] at HE
    clear hn ha
    go_enter Try.func53, Try.ntmps53
    go_wp2_with fail
    refine HE.mono ?_; rintro e w1 ⟨rfl, b1⟩
    go_wp2_with fail
    go_ret2
    exact RetSB.mk rfl rfl b1
theorem implBracketsOf_no (s : ByteArray) (w : World) (hp : ¬ DyckP (L s)) :
    Calls Try.prog 52 #[.string s] w (RetSB w ([], false)) := by
  have HP0 := implIsDyck_any s w
  simp only [decide_eq_false hp] at HP0
  clear hp
  go_enter Try.func52, Try.ntmps52
  go_wp2_with fail
  refine HP0.mono ?_; rintro e w1 ⟨rfl, b1⟩
  go_wp2_with fail
  go_ret2
  exact RetSB.mk rfl rfl b1
end Go.Proofs.Ytnkkgfeegaiakaa
