/- Contracts of BracketsOf and PathOfBrackets at a path, the program's and the reference's. Conditions: the word is a path (or a path's brackets). -/
import Derived.Test.YtnkkgfeegaiakaaGround2
namespace Go.Proofs.Ytnkkgfeegaiakaa
open Go.RowKit
/-- a letter's bracket -/
def brC (c : UInt8) : UInt8 := if c.toNat = 117 then 40 else 41
def brk (l : List UInt8) : List UInt8 := l.map brC
theorem brk_len (l : List UInt8) : (brk l).length = l.length := by simp [brk]
theorem brk_succ {l : List UInt8} {k : Nat} (h : k < l.length) : brk (l.take (k + 1)) = brk (l.take k) ++ [brC l[k]] := by
  unfold brk
  rw [List.take_succ_eq_append_getElem h, List.map_append]; rfl
theorem brk_size (l : List UInt8) (k : Nat) : (S (brk (l.take k))).size ≤ l.length := by rw [S_size, brk_len, List.length_take]; omega
theorem take_size (l : List UInt8) (k : Nat) : (S (l.take k)).size ≤ l.length := by rw [S_size, List.length_take]; omega
theorem brk_at {b : ByteArray} {l : List UInt8} (h : L b = brk l) : b.size = l.length := by rw [← L_len, h, brk_len]
theorem brk_get {b : ByteArray} {l : List UInt8} (h : L b = brk l) {k : Nat} (hk : k < b.size) (hl : k < l.length) : b[k] = brC l[k] := by
  rw [← L_get b k hk]
  have : ∀ (x : List UInt8) (hx : L b = x) (hkx : k < x.length), (L b)[k]'(by rw [L_len]; exact hk) = x[k] := by intro x hx hkx; subst hx; rfl
  rw [this _ h (by rw [brk_len]; exact hl)]
  simp [brk]
set_option maxHeartbeats 1000000 in
theorem specBracketsOf_any (s : ByteArray) (w : World) (hp : DyckP (L s)) :
    Calls Try.prog 50 #[.string s] w (RetSB w (brk (L s), true)) := by
  have hl16 := hp.1
  rw [L_len] at hl16
  have HI : Hid (∀ wq, Calls Try.prog 183 #[.string s] wq fun e w' => e = .returned (.bool true) ∧ wq = w') := fun wq => (specIsDyck_any s wq (by omega)).mono fun e w' h => ⟨by rw [h.1]; simp [hp], h.2⟩
  have HF := Lib.hid (show brk ((L s).take s.size) = brk (L s) by rw [← L_len, List.take_length])
  clear hp
  go_enter Try.func50, Try.ntmps50
  go_wp2_with fail
  go_loop [4, 5] (fun x i => ∃ k : Nat, k ≤ s.size ∧ i = .int .i64 k ∧ x = .string (S (brk ((L s).take k)))) (fun _ i => s.size - (intOf i).toNat)
  case atStart => exact ⟨0, by omega, rfl, rfl⟩
  case round =>
    obtain ⟨k, hk, rfl, rfl⟩ := hrel
    by_cases hlt : k < s.size
    · have HS := Lib.hid (brk_succ (l := L s) (k := k) (by rw [L_len]; exact hlt))
      have hsz : (S (brk ((L s).take k))).size ≤ 16 := by have := brk_size (L s) k; rw [L_len] at this; omega
      by_cases hu : s[k].toNat = 117
      · have f1 : (((s[k].toNat : Nat) : Int) == 117) = true := by simp; omega
        have HC := Lib.hid (show S (brk ((L s).take k)) ++ ⟨#[40]⟩ = S (brk ((L s).take (k + 1))) by rw [S_snoc, HS.out]; congr 2; unfold brC; rw [L_get s k hlt, if_pos hu])
        clear hu
        go_wp2_with (go_at_call 183; refine (HI.out _).mono ?_; rintro e w' ⟨rfl, rfl⟩)
        go_round
        case rel => exact ⟨k + 1, by omega, by go_num, by rw [HC.out]⟩
        case measure => simp [intOf]; omega
      · have f1 : (((s[k].toNat : Nat) : Int) == 117) = false := by simp; omega
        have HC := Lib.hid (show S (brk ((L s).take k)) ++ ⟨#[41]⟩ = S (brk ((L s).take (k + 1))) by rw [S_snoc, HS.out]; congr 2; unfold brC; rw [L_get s k hlt, if_neg hu])
        clear hu
        go_wp2_with (go_at_call 183; refine (HI.out _).mono ?_; rintro e w' ⟨rfl, rfl⟩)
        go_round
        case rel => exact ⟨k + 1, by omega, by go_num, by rw [HC.out]⟩
        case measure => simp [intOf]; omega
    · have hke : k = s.size := by omega
      subst hke
      go_wp2_with (go_at_call 183; refine (HI.out _).mono ?_; rintro e w' ⟨rfl, rfl⟩)
      go_ret2
      exact RetSB.mk rfl (by rw [HF.out]) (Below.refl _ _)
set_option maxHeartbeats 1000000 in
theorem specPathOfBrackets_any (b : ByteArray) (l : List UInt8) (w : World) (hb : L b = brk l) (hp : DyckP l) :
    Calls Try.prog 49 #[.string b] w (RetSB w (l, true)) := by
  have hl16 := hp.1
  have hbl := brk_at hb
  have hb16 : b.size ≤ 16 := by omega
  have HI : Hid (∀ wq, Calls Try.prog 183 #[.string (S l)] wq fun e w' => e = .returned (.bool true) ∧ wq = w') := fun wq => (specIsDyck_any (S l) wq (by rw [S_size]; omega)).mono fun e w' h => ⟨by rw [h.1]; simp [L_S, hp], h.2⟩
  have HG : Hid (∀ (k : Nat) (hk : k < b.size) (hl : k < l.length), b[k] = brC l[k]) := Lib.hid (fun k hk hl => brk_get hb hk hl)
  have HD := Lib.hid (fun (k : Nat) (hk : k < l.length) => dyck_letter hp hk)
  have HF := Lib.hid (show l.take b.size = l by rw [hbl, List.take_length])
  have HL := Lib.hid hbl
  clear hp hb hbl hl16
  go_enter Try.func49, Try.ntmps49
  go_wp2_with fail
  go_loop [4, 5] (fun x i => ∃ k : Nat, k ≤ b.size ∧ i = .int .i64 k ∧ x = .string (S (l.take k))) (fun _ i => b.size - (intOf i).toNat)
  case atStart => exact ⟨0, by omega, rfl, rfl⟩
  case round =>
    obtain ⟨k, hk, rfl, rfl⟩ := hrel
    by_cases hlt : k < b.size
    · have hkl : k < l.length := by have := HL.out; omega
      have HS := Lib.hid (List.take_succ_eq_append_getElem hkl)
      have hsz : (S (l.take k)).size ≤ 16 := by rw [S_size, List.length_take]; omega
      have hg := HG.out k hlt hkl
      by_cases hu : l[k].toNat = 117
      · have f1 : (((b[k].toNat : Nat) : Int) == 40) = true := by rw [hg]; unfold brC; rw [if_pos hu]; rfl
        have HC := Lib.hid (show S (l.take k) ++ ⟨#[117]⟩ = S (l.take (k + 1)) by rw [S_snoc, HS.out]; congr 3; exact (UInt8.toNat_inj.1 hu).symm)
        clear hu hg HS hkl
        go_wp2_with fail
        go_round
        case rel => exact ⟨k + 1, by omega, by go_num, by rw [HC.out]⟩
        case measure => simp [intOf]; omega
      · have f1 : (((b[k].toNat : Nat) : Int) == 40) = false := by rw [hg]; unfold brC; rw [if_neg hu]; rfl
        have f2 : (((b[k].toNat : Nat) : Int) == 41) = true := by rw [hg]; unfold brC; rw [if_neg hu]; rfl
        have h100 : l[k].toNat = 100 := by rcases HD.out k hkl with h | h; exact absurd h hu; exact h
        have HC := Lib.hid (show S (l.take k) ++ ⟨#[100]⟩ = S (l.take (k + 1)) by rw [S_snoc, HS.out]; congr 3; exact (UInt8.toNat_inj.1 h100).symm)
        clear hu hg HS h100 hkl
        go_wp2_with fail
        go_round
        case rel => exact ⟨k + 1, by omega, by go_num, by rw [HC.out]⟩
        case measure => simp [intOf]; omega
    · have hke : k = b.size := by omega
      subst hke
      rw [HF.out]
      go_wp2_with (go_at_call 183; refine (HI.out _).mono ?_; rintro e w' ⟨rfl, rfl⟩)
      go_ret2
      exact RetSB.mk rfl rfl (Below.refl _ _)
set_option maxRecDepth 100000 in
set_option maxHeartbeats 1000000 in
theorem implExchU (b : ByteArray) (l : List UInt8) (w : World) (f t : ByteArray) (hf : f.size = 2) (ht : t.size = 2) (hf0 : f[0].toNat = 117) (hf1 : f[1].toNat = 100) (ht0 : t[0].toNat = 40) (ht1 : t[1].toNat = 41) (hb : L b = l) (hp : DyckP l) :
    Calls Try.prog 191 #[.string b, .string f, .string t] w (RetSB w (brk l, true)) := by
  have hl16 := hp.1
  have hbl : b.size = l.length := by rw [← L_len, hb]
  have hb16 : b.size ≤ 16 := by omega
  have HG : Hid (∀ (k : Nat) (hk : k < b.size) (hl : k < l.length), b[k] = l[k]) := Lib.hid (fun k hk hl => by subst hb; rfl)
  have HD := Lib.hid (fun (k : Nat) (hk : k < l.length) => dyck_letter hp hk)
  have HF := Lib.hid (show brk (l.take b.size) = brk l by rw [hbl, List.take_length])
  have HL := Lib.hid hbl
  clear hp hb hbl hl16
  go_enter Try.func191, Try.ntmps191
  go_wp2_with fail
  have own0 := OwR.emptyB w w.heap.size (Nat.le_refl _)
  have hB0 : Below w.heap.size w (w.alloc (.cells #[] 5)) := (Below.refl _ _).alloc (Nat.le_refl _) _
  go_wp2_with fail
  generalize w.alloc (.cells #[] 5) = w2 at own0 hB0 ⊢
  go_loopw [8, 9] (fun x i wr => ∃ k : Nat, k ≤ b.size ∧ i = .int .i64 k ∧ OwR 5 bf wr w.heap.size x (brk (l.take k)) ∧ Below w.heap.size w wr) (fun _ i _ => b.size - (intOf i).toNat)
  case atStart => exact ⟨0, by omega, rfl, own0, hB0⟩
  case round =>
    clear own0 hB0
    obtain ⟨k, hk, rfl, hx, hB⟩ := hrel
    have hsz := hB.size
    by_cases hlt : k < b.size
    · have hkl : k < l.length := by have := HL.out; omega
      have HS := Lib.hid (brk_succ hkl)
      have hlen : (brk (l.take k)).length < 1099511627776 := by simp only [brk_len, List.length_take]; omega
      have hg := HG.out k hlt hkl
      by_cases hu : l[k].toNat = 117
      · have f1 : (((b[k].toNat : Nat) : Int) == 117) = true := by rw [hg, hu]; rfl
        have HC := Lib.hid (show brk (l.take (k + 1)) = brk (l.take k) ++ [40] by rw [HS.out]; congr 2; unfold brC; rw [if_pos hu])
        clear hu hg HS
        go_wp2_with (at_builtin; refine wpList_appB _ rfl _ _ rfl w.heap.size _ _ rfl hx 40 _ (by first | rfl | (rw [ht0]; rfl) | simp [ht0]) rfl rfl hlen hsz ?_)
        intro v' w3 hx3 hg3 hat3
        have hB3 := below_of_own hB hg3 hsz (fun g hg => (hx.lt g hg).1)
        clear hx hg3 hat3
        go_wp2_with fail
        go_roundw
        case rel => exact ⟨k + 1, by omega, by go_num, by rw [HC.out]; exact hx3, hB3⟩
        case measure => simp [intOf]; omega
      · have h100 : l[k].toNat = 100 := by rcases HD.out k hkl with h | h; exact absurd h hu; exact h
        have f1 : (((b[k].toNat : Nat) : Int) == 117) = false := by rw [hg, h100]; rfl
        have f2 : (((b[k].toNat : Nat) : Int) == 100) = true := by rw [hg, h100]; rfl
        have HC := Lib.hid (show brk (l.take (k + 1)) = brk (l.take k) ++ [41] by rw [HS.out]; congr 2; unfold brC; rw [if_neg hu])
        clear hu hg HS h100
        go_wp2_with (at_builtin; refine wpList_appB _ rfl _ _ rfl w.heap.size _ _ rfl hx 41 _ (by first | rfl | (rw [ht1]; rfl) | simp [ht1]) rfl rfl hlen hsz ?_)
        intro v' w3 hx3 hg3 hat3
        have hB3 := below_of_own hB hg3 hsz (fun g hg => (hx.lt g hg).1)
        clear hx hg3 hat3
        go_wp2_with fail
        go_roundw
        case rel => exact ⟨k + 1, by omega, by go_num, by rw [HC.out]; exact hx3, hB3⟩
        case measure => simp [intOf]; omega
    · have hke : k = b.size := by omega
      subst hke
      rw [HF.out] at hx
      have kc := conv_row hx
      go_wp2_with fail
      go_ret2
      exact RetSB.mk rfl rfl hB
set_option maxRecDepth 100000 in
set_option maxHeartbeats 1000000 in
theorem implExchB (b : ByteArray) (l : List UInt8) (w : World) (f t : ByteArray) (hf : f.size = 2) (ht : t.size = 2) (hf0 : f[0].toNat = 40) (hf1 : f[1].toNat = 41) (ht0 : t[0].toNat = 117) (ht1 : t[1].toNat = 100) (hb : L b = brk l) (hp : DyckP l) :
    Calls Try.prog 191 #[.string b, .string f, .string t] w (RetSB w (l, true)) := by
  have hl16 := hp.1
  have hbl : b.size = l.length := brk_at hb
  have hb16 : b.size ≤ 16 := by omega
  have HG : Hid (∀ (k : Nat) (hk : k < b.size) (hl : k < l.length), b[k] = brC l[k]) := Lib.hid (fun k hk hl => brk_get hb hk hl)
  have HD := Lib.hid (fun (k : Nat) (hk : k < l.length) => dyck_letter hp hk)
  have HF := Lib.hid (show l.take b.size = l by rw [hbl, List.take_length])
  have HL := Lib.hid hbl
  clear hp hb hbl hl16
  go_enter Try.func191, Try.ntmps191
  go_wp2_with fail
  have own0 := OwR.emptyB w w.heap.size (Nat.le_refl _)
  have hB0 : Below w.heap.size w (w.alloc (.cells #[] 5)) := (Below.refl _ _).alloc (Nat.le_refl _) _
  go_wp2_with fail
  generalize w.alloc (.cells #[] 5) = w2 at own0 hB0 ⊢
  go_loopw [8, 9] (fun x i wr => ∃ k : Nat, k ≤ b.size ∧ i = .int .i64 k ∧ OwR 5 bf wr w.heap.size x (l.take k) ∧ Below w.heap.size w wr) (fun _ i _ => b.size - (intOf i).toNat)
  case atStart => exact ⟨0, by omega, rfl, own0, hB0⟩
  case round =>
    clear own0 hB0
    obtain ⟨k, hk, rfl, hx, hB⟩ := hrel
    have hsz := hB.size
    by_cases hlt : k < b.size
    · have hkl : k < l.length := by have := HL.out; omega
      have HS := Lib.hid (List.take_succ_eq_append_getElem hkl)
      have hlen : (l.take k).length < 1099511627776 := by simp only [brk_len, List.length_take]; omega
      have hg := HG.out k hlt hkl
      by_cases hu : l[k].toNat = 117
      · have f1 : (((b[k].toNat : Nat) : Int) == 40) = true := by rw [hg]; unfold brC; rw [if_pos hu]; rfl
        have HC := Lib.hid (show l.take (k + 1) = l.take k ++ [117] by rw [HS.out]; congr 2; exact UInt8.toNat_inj.1 hu)
        clear hu hg HS
        go_wp2_with (at_builtin; refine wpList_appB _ rfl _ _ rfl w.heap.size _ _ rfl hx 117 _ (by first | rfl | (rw [ht0]; rfl) | simp [ht0]) rfl rfl hlen hsz ?_)
        intro v' w3 hx3 hg3 hat3
        have hB3 := below_of_own hB hg3 hsz (fun g hg => (hx.lt g hg).1)
        clear hx hg3 hat3
        go_wp2_with fail
        go_roundw
        case rel => exact ⟨k + 1, by omega, by go_num, by rw [HC.out]; exact hx3, hB3⟩
        case measure => simp [intOf]; omega
      · have h100 : l[k].toNat = 100 := by rcases HD.out k hkl with h | h; exact absurd h hu; exact h
        have f1 : (((b[k].toNat : Nat) : Int) == 40) = false := by rw [hg]; unfold brC; rw [if_neg hu]; rfl
        have f2 : (((b[k].toNat : Nat) : Int) == 41) = true := by rw [hg]; unfold brC; rw [if_neg hu]; rfl
        have HC := Lib.hid (show l.take (k + 1) = l.take k ++ [100] by rw [HS.out]; congr 2; exact UInt8.toNat_inj.1 h100)
        clear hu hg HS h100
        go_wp2_with (at_builtin; refine wpList_appB _ rfl _ _ rfl w.heap.size _ _ rfl hx 100 _ (by first | rfl | (rw [ht1]; rfl) | simp [ht1]) rfl rfl hlen hsz ?_)
        intro v' w3 hx3 hg3 hat3
        have hB3 := below_of_own hB hg3 hsz (fun g hg => (hx.lt g hg).1)
        clear hx hg3 hat3
        go_wp2_with fail
        go_roundw
        case rel => exact ⟨k + 1, by omega, by go_num, by rw [HC.out]; exact hx3, hB3⟩
        case measure => simp [intOf]; omega
    · have hke : k = b.size := by omega
      subst hke
      rw [HF.out] at hx
      have kc := conv_row hx
      go_wp2_with fail
      go_ret2
      exact RetSB.mk rfl rfl hB
set_option maxHeartbeats 1000000 in
theorem implBracketsOf_any (s : ByteArray) (w : World) (hp : DyckP (L s)) :
    Calls Try.prog 52 #[.string s] w (RetSB w (brk (L s), true)) := by
  have HP0 := implIsDyck_any s w
  simp only [decide_eq_true hp] at HP0
  have HE := Lib.hid (fun wq => implExchU s (L s) wq ⟨#[117, 100]⟩ ⟨#[40, 41]⟩ rfl rfl rfl rfl rfl rfl rfl hp)
  clear hp
  go_enter Try.func52, Try.ntmps52
  go_wp2_with fail
  refine HP0.mono ?_; rintro e w1 ⟨rfl, b1⟩
  go_wp2_with fail
  refine (HE.out _).mono ?_; rintro e w2 ⟨rfl, b2⟩
  have B2 := below_then b1 b2
  go_wp2_with fail
  go_ret2
  exact RetSB.mk rfl rfl B2
set_option maxHeartbeats 1000000 in
theorem implPathOfBrackets_any (b : ByteArray) (l : List UInt8) (w : World) (hb : L b = brk l) (hp : DyckP l) :
    Calls Try.prog 53 #[.string b] w (RetSB w (l, true)) := by
  have HE := implExchB b l w ⟨#[40, 41]⟩ ⟨#[117, 100]⟩ rfl rfl rfl rfl rfl rfl hb hp
  have HP : Hid (∀ wq, Calls Try.prog 182 #[.string (S l)] wq fun e w' => e = .returned (.bool true) ∧ Below wq.heap.size wq w') := Lib.hid (fun wq => by have h := implIsDyck_any (S l) wq; simp only [L_S, decide_eq_true hp] at h; exact h)
  clear hp hb
  go_enter Try.func53, Try.ntmps53
  go_wp2_with fail
  refine HE.mono ?_; rintro e w1 ⟨rfl, b1⟩
  go_wp2_with fail
  refine (HP.out _).mono ?_; rintro e w2 ⟨rfl, b2⟩
  have B2 := below_then b1 b2
  go_wp2_with fail
  go_ret2
  exact RetSB.mk rfl rfl B2
end Go.Proofs.Ytnkkgfeegaiakaa
