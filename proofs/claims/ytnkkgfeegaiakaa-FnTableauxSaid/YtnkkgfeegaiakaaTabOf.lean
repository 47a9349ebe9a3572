/- Contracts of TableauOf, the program's and the reference's: both return the same rows and bool. No condition but the word's size. -/
import Derived.Test.YtnkkgfeegaiakaaPath
import Derived.Test.YtnkkgfeegaiakaaPlain15
import Derived.Test.YtnkkgfeegaiakaaGround
import Derived.Test.YtnkkgfeegaiakaaSSMark
namespace Go.Proofs.Ytnkkgfeegaiakaa
open Go.RowKit
theorem off_two (a b : List Int) : off [a, b] 2 = a.length + b.length := by
  rw [off_succ, off_succ, off_zero, Nat.zero_add]; rfl
theorem tabR_off (l : List UInt8) : off (tabR l).1 (tabR l).1.length ≤ 64 := by
  unfold tabR
  by_cases h : DyckP l
  · rw [if_pos h]
    have h1 := tuL_len l l.length
    have h2 := tdL_len l l.length
    have h3 := h.1
    show off [tuL l l.length, tdL l l.length] 2 ≤ 64
    rw [off_two]; omega
  · rw [if_neg h]; exact Nat.zero_le _
set_option maxHeartbeats 1000000 in
theorem specTableauOf_any (s : ByteArray) (w : World) (hs : s.size ≤ 1099511627776) :
    Calls Try.prog 36 #[.string s] w (RetSSB w (tabR (L s))) := by
  by_cases hp : DyckP (L s)
  · have hl16 := hp.1
    rw [L_len] at hl16
    have HV := Lib.hid (show tabR (L s) = ([tuL (L s) s.size, tdL (L s) s.size], true) by unfold tabR; rw [if_pos hp, L_len])
    have HI : Hid (∀ wq, Calls Try.prog 183 #[.string s] wq fun e w' => e = .returned (.bool true) ∧ wq = w') := fun wq => (specIsDyck_any s wq hs).mono fun e w' h => ⟨by rw [h.1]; simp [hp], h.2⟩
    clear hp
    go_enter Try.func36, Try.ntmps36
    go_wp2_with fail
    have hz1 : (w.alloc (.cells #[] 3)).heap.size = w.heap.size + 1 := by simp
    have ownA := OwI.empty_ w w.heap.size (Nat.le_refl _)
    have ownB := OwI.empty_ (w.alloc (.cells #[] 3)) w.heap.size (by omega)
    have ownA := OwI.below ownA ((Below.refl _ _).alloc (Nat.le_refl _) (.cells #[] 3))
    have hB0 : Below w.heap.size w ((w.alloc (.cells #[] 3)).alloc (.cells #[] 3)) := ((Below.refl _ _).alloc (Nat.le_refl _) _).alloc (by omega) _
    have ap0 : Apart (.slice (some ⟨w.heap.size, 0, none⟩) 0 0) (.slice (some ⟨(w.alloc (.cells #[] 3)).heap.size, 0, none⟩) 0 0) := fun g h1 h2 => by
      simp [Value.ownBlock] at h1 h2; omega
    rw [hz1] at ownB ap0
    generalize (w.alloc (.cells #[] 3)).alloc (.cells #[] 3) = w0 at ownA ownB hB0 ⊢
    go_loopw [4, 5, 6] (fun va vb i wr => ∃ k : Nat, k ≤ s.size ∧ i = .int .i64 k ∧ OwI wr w.heap.size va (tuL (L s) k) ∧ OwI wr w.heap.size vb (tdL (L s) k) ∧ Apart va vb ∧ Below w.heap.size w wr) (fun _ _ i _ => s.size - (intOf i).toNat)
    case atStart => exact ⟨0, by omega, rfl, ownA, ownB, ap0, hB0⟩
    case round =>
      clear ownA ownB ap0 hB0 hz1
      obtain ⟨k, hk, rfl, ha, hb, hap, hB⟩ := hrel
      have hsz := hB.size
      by_cases hlt : k < s.size
      · have hlL : k < (L s).length := by rw [L_len]; exact hlt
        have hg : (L s)[k] = s[k] := L_get s k hlt
        have HU := Lib.hid (tuL_succ hlL)
        have HD := Lib.hid (tdL_succ hlL)
        rw [hg] at HU HD
        have hla : (tuL (L s) k).length < 1099511627776 := by have := tuL_len (L s) k; omega
        have hlb : (tdL (L s) k).length < 1099511627776 := by have := tdL_len (L s) k; omega
        clear hg
        by_cases hu : s[k].toNat = 117
        · have f1 : (((s[k].toNat : Nat) : Int) == 117) = true := by simp; omega
          have HU1 := Lib.hid (HU.out.trans (by rw [if_pos hu]))
          have HD1 := Lib.hid (HD.out.trans (by rw [if_pos hu, List.append_nil]))
          clear hu HU HD
          go_wp2_with (first
            | (go_at_call 183; refine (HI.out _).mono ?_; rintro e w' ⟨rfl, rfl⟩)
            | (at_builtin; refine wpList_appI _ rfl _ _ rfl w.heap.size _ _ rfl ha _ rfl rfl hla hsz ?_))
          intro v' w1 ha1 hg1 hat1
          have hB1 := below_of_own hB hg1 hsz (fun g hg => (ha.lt g hg).1)
          have R := Lib.hid ((OwI_is.1 hb).after_app hap hg1 hat1)
          clear ha hb hap hg1 hat1
          go_wp2_with fail
          go_roundw
          case rel => exact ⟨k + 1, by omega, by go_num, by rw [HU1.out]; exact ha1, by rw [HD1.out]; exact R.out.1, R.out.2, hB1⟩
          case measure => simp [intOf]; omega
        · have f1 : (((s[k].toNat : Nat) : Int) == 117) = false := by simp; omega
          have HU1 := Lib.hid (HU.out.trans (by rw [if_neg hu, List.append_nil]))
          have HD1 := Lib.hid (HD.out.trans (by rw [if_neg hu]))
          clear hu HU HD
          go_wp2_with (first
            | (go_at_call 183; refine (HI.out _).mono ?_; rintro e w' ⟨rfl, rfl⟩)
            | (at_builtin; refine wpList_appI _ rfl _ _ rfl w.heap.size _ _ rfl hb _ rfl rfl hlb hsz ?_))
          intro v' w1 hb1 hg1 hat1
          have hB1 := below_of_own hB hg1 hsz (fun g hg => (hb.lt g hg).1)
          have R := Lib.hid ((OwI_is.1 ha).after_app hap.symm hg1 hat1)
          clear ha hb hap hg1 hat1
          go_wp2_with fail
          go_roundw
          case rel => exact ⟨k + 1, by omega, by go_num, by rw [HU1.out]; exact R.out.1, by rw [HD1.out]; exact hb1, R.out.2.symm, hB1⟩
          case measure => simp [intOf]; omega
      · have hke : k = s.size := by omega
        subst hke
        obtain ⟨xa, xca, rfl, _⟩ := id ha.rd
        obtain ⟨xb, xcb, rfl, _⟩ := id hb.rd
        go_wp2_with (go_at_call 183; refine (HI.out _).mono ?_; rintro e w' ⟨rfl, rfl⟩)
        go_ret2
        exact RetSSB.mk HV.out (OwSS.lit2 ha hb hap hsz) (hB.alloc hsz _)
  · have HV := Lib.hid (show tabR (L s) = ([], false) by unfold tabR; rw [if_neg hp])
    have HI : Hid (∀ wq, Calls Try.prog 183 #[.string s] wq fun e w' => e = .returned (.bool false) ∧ wq = w') := fun wq => (specIsDyck_any s wq hs).mono fun e w' h => ⟨by rw [h.1]; simp [hp], h.2⟩
    clear hp
    go_enter Try.func36, Try.ntmps36
    go_wp2_with fail
    have hz1 : (w.alloc (.cells #[] 3)).heap.size = w.heap.size + 1 := by simp
    have hB0 : Below w.heap.size w ((w.alloc (.cells #[] 3)).alloc (.cells #[] 3)) := ((Below.refl _ _).alloc (Nat.le_refl _) _).alloc (by omega) _
    generalize (w.alloc (.cells #[] 3)).alloc (.cells #[] 3) = w0 at hB0 ⊢
    have hsz := hB0.size
    by_cases h0 : 0 < s.size
    all_goals (
      refine wp_loop_rounds 1 ?_
      rw [rounds_succ]
      go_wp2_with (go_at_call 183; refine (HI.out _).mono ?_; rintro e w' ⟨rfl, rfl⟩)
      go_ret2
      exact RetSSB.mk HV.out (OwSS.empty2 w0 w.heap.size hsz) (hB0.alloc hsz _))
set_option maxHeartbeats 1000000 in
theorem implTableauOf_any (s : ByteArray) (w : World) (_hs : s.size ≤ 1099511627776) :
    Calls Try.prog 31 #[.string s] w (RetSSB w (tabR (L s))) := by
  by_cases hp : DyckP (L s)
  · have hl16 := hp.1
    rw [L_len] at hl16
    have HV := Lib.hid (show tabR (L s) = ([tuL (L s) s.size, tdL (L s) s.size], true) by unfold tabR; rw [if_pos hp, L_len])
    have HD := Lib.hid hp
    have HP0 := implIsDyck_any s w
    simp only [decide_eq_true hp] at HP0
    clear hp
    go_enter Try.func31, Try.ntmps31
    go_wp2_with fail
    refine HP0.mono ?_; rintro e w1 ⟨rfl, b1⟩
    go_wp2_with fail
    have hs1 := b1.size
    have hz1 : (w1.alloc (.cells #[] 3)).heap.size = w1.heap.size + 1 := by simp
    have ownA := OwI.empty_ w1 w.heap.size hs1
    have ownB := OwI.empty_ (w1.alloc (.cells #[] 3)) w.heap.size (by omega)
    have ownA := OwI.below ownA ((Below.refl _ _).alloc (Nat.le_refl _) (.cells #[] 3))
    have hB0 : Below w.heap.size w ((w1.alloc (.cells #[] 3)).alloc (.cells #[] 3)) := (b1.alloc hs1 _).alloc (by omega) _
    have ap0 : Apart (.slice (some ⟨w1.heap.size, 0, none⟩) 0 0) (.slice (some ⟨(w1.alloc (.cells #[] 3)).heap.size, 0, none⟩) 0 0) := fun g h1 h2 => by
      simp [Value.ownBlock] at h1 h2; omega
    have own0 := OwSS.lit2 ownA ownB ap0 hB0.size
    have hB1 := hB0.alloc hB0.size (.cells #[.slice (some ⟨w1.heap.size, 0, none⟩) 0 0, .slice (some ⟨(w1.alloc (.cells #[] 3)).heap.size, 0, none⟩) 0 0] 38)
    have hz2 : ((w1.alloc (.cells #[] 3)).alloc (.cells #[] 3)).heap.size = w1.heap.size + 2 := by simp
    have hga : w.heap.size ≤ w1.heap.size + 2 := by omega
    rw [hz2] at own0
    rw [hz1] at own0 hB1
    clear ap0 ownA ownB hB0 hz1 hz2
    generalize ((w1.alloc (.cells #[] 3)).alloc (.cells #[] 3)).alloc (.cells #[.slice (some ⟨w1.heap.size, 0, none⟩) 0 0, .slice (some ⟨w1.heap.size + 1, 0, none⟩) 0 0] 38) = w0 at own0 hB1 ⊢
    generalize w1.heap.size + 2 = ga at own0 hga ⊢
    go_loopw [5] (fun i wr => ∃ k : Nat, k ≤ s.size ∧ i = .int .i64 k ∧ OwSS wr w.heap.size wr.heap.size (.slice (some ⟨ga, 0, none⟩) 2 2) [tuL (L s) k, tdL (L s) k] ∧ Below w.heap.size w wr) (fun i _ => s.size - (intOf i).toNat)
    case atStart => exact ⟨0, by omega, rfl, own0, hB1⟩
    case round =>
      clear own0 hB1 b1 hs1
      obtain ⟨k, hk, rfl, hown, hB⟩ := hrel
      have hsz := hB.size
      by_cases hlt : k < s.size
      · have hlL : k < (L s).length := by rw [L_len]; exact hlt
        have hg : (L s)[k] = s[k] := L_get s k hlt
        have HU := Lib.hid (tuL_succ hlL)
        have HD1 := Lib.hid (tdL_succ hlL)
        rw [hg] at HU HD1
        have hla := tuL_len (L s) k
        have hlb := tdL_len (L s) k
        have hle := dyck_letter HD.out hlL
        rw [hg] at hle
        clear hg
        by_cases hu : s[k].toNat = 117
        · have f1 : (((s[k].toNat : Nat) : Int) == 100) = false := by simp; omega
          have HU1 := Lib.hid (HU.out.trans (by rw [if_pos hu]))
          have HD2 := Lib.hid (HD1.out.trans (by rw [if_pos hu, List.append_nil]))
          obtain ⟨ru, rc, ro, rk⟩ := hown.row (j := 0) (by simp)
          have hrl : (rowOf [tuL (L s) k, tdL (L s) k] 0).length < 1099511627776 := by show (tuL (L s) k).length < _; omega
          clear hu HU HD1 hle
          go_wp2_with (at_builtin; refine wpList_appI _ rfl _ _ rfl w.heap.size _ _ rfl ro _ rfl (by simp) hrl hsz ?_)
          intro u' w2 o2 g2 a2
          obtain ⟨f3, c3, o3⟩ := rk u' w2 _ _ o2 g2 a2
          have hB2 : Below w.heap.size w w2 := hB.grown g2 hsz (fun g hg => (ro.lt g hg).1)
          obtain ⟨ug, ucap, rfl⟩ := a2.2
          have HK := Lib.hid o3
          clear o3 o2 g2 a2
          go_wp2_with fail
          go_roundw
          case rel => exact ⟨k + 1, by omega, by go_num, by rw [HU1.out, HD2.out]; exact HK.out.size, hB2.setCell hga _⟩
          case measure => simp [intOf]; omega
        · have f1 : (((s[k].toNat : Nat) : Int) == 100) = true := by simp; omega
          have HU1 := Lib.hid (HU.out.trans (by rw [if_neg hu, List.append_nil]))
          have HD2 := Lib.hid (HD1.out.trans (by rw [if_neg hu]))
          obtain ⟨ru, rc, ro, rk⟩ := hown.row (j := 1) (by simp)
          have hrl : (rowOf [tuL (L s) k, tdL (L s) k] 1).length < 1099511627776 := by show (tdL (L s) k).length < _; omega
          clear hu HU HD1 hle
          go_wp2_with (at_builtin; refine wpList_appI _ rfl _ _ rfl w.heap.size _ _ rfl ro _ rfl (by simp) hrl hsz ?_)
          intro u' w2 o2 g2 a2
          obtain ⟨f3, c3, o3⟩ := rk u' w2 _ _ o2 g2 a2
          have hB2 : Below w.heap.size w w2 := hB.grown g2 hsz (fun g hg => (ro.lt g hg).1)
          obtain ⟨ug, ucap, rfl⟩ := a2.2
          have HK := Lib.hid o3
          clear o3 o2 g2 a2
          go_wp2_with fail
          go_roundw
          case rel => exact ⟨k + 1, by omega, by go_num, by rw [HU1.out, HD2.out]; exact HK.out.size, hB2.setCell hga _⟩
          case measure => simp [intOf]; omega
      · have hke : k = s.size := by omega
        subst hke
        go_wp2_with fail
        go_ret2
        exact RetSSB.mk HV.out hown hB
  · have HV := Lib.hid (show tabR (L s) = ([], false) by unfold tabR; rw [if_neg hp])
    have HP0 := implIsDyck_any s w
    simp only [decide_eq_false hp] at HP0
    clear hp
    go_enter Try.func31, Try.ntmps31
    go_wp2_with fail
    refine HP0.mono ?_; rintro e w1 ⟨rfl, b1⟩
    go_wp2_with fail
    go_ret2
    exact RetSSB.mk HV.out (OwSS.empty2 w1 w.heap.size b1.size) (b1.alloc b1.size _)
end Go.Proofs.Ytnkkgfeegaiakaa
