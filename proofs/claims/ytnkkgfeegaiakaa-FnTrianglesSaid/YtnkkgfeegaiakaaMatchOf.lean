/- Contracts of MatchingOf, the program's and the reference's, and of what they call: the partner of a letter, and all partners. No condition but the word's size. -/
import Derived.Test.YtnkkgfeegaiakaaGround2
import Derived.Test.YtnkkgfeegaiakaaStack
namespace Go.Proofs.Ytnkkgfeegaiakaa
open Go.RowKit
theorem l4Partner_any (s : ByteArray) (i j : Nat) (w : World) (hd : DyckP (L s)) (hi : i < s.size) (hp : Pr (L s) i j) :
    Calls Try.prog 184 #[.string s, .int .i64 i] w fun e w' => e = .returned (.int .i64 j) ∧ w = w' := by
  have hl16 := hd.1
  rw [L_len] at hl16
  rcases hp with ha | ha
  · obtain ⟨hi2, hu⟩ := ha.left hd
    have f1 : (((s[i].toNat : Nat) : Int) == 117) = true := by
      have : (L s)[i] = s[i] := L_get s i hi
      rw [this] at hu; simp; omega
    have HA := Lib.hid ha
    have hij := ha.1
    have hj := ha.2.1
    rw [L_len] at hj
    clear ha
    go_enter Try.func184, Try.ntmps184
    go_wp2_with fail
    go_loop [5, 6] (fun h k => ∃ x t : Nat, i ≤ x ∧ x ≤ j ∧ k = .int .i64 x ∧ h = .int .i64 (t : Int) ∧ t ≤ 1000 ∧ Hid (hN (L s) x = hN (L s) i + t)) (fun _ k => s.size - (intOf k).toNat)
    case atStart => exact ⟨i, 0, by omega, by omega, rfl, rfl, by omega, rfl⟩
    case round =>
      clear f1
      obtain ⟨x, t, hx1, hx2, rfl, rfl, ht, HT⟩ := hrel
      have hlt : x < s.size := by omega
      have hlL : x < (L s).length := by rw [L_len]; exact hlt
      have hxb : t ≤ x := by have := hN_le (L s) hd x (by omega); have := HT.out; omega
      have hg : (L s)[x] = s[x] := L_get s x hlt
      by_cases hux : s[x].toNat = 117
      · have f1 : (((s[x].toNat : Nat) : Int) == 117) = true := by simp; omega
        have hn := hN_up hd hlL (by rw [hg]; exact hux)
        have HN := Lib.hid (show hN (L s) (x + 1) = hN (L s) i + (t + 1) by rw [hn, HT.out]; omega)
        have hxj : x ≠ j := fun e => by
          subst e
          have := HA.out.2.2.1
          have := HN.out
          omega
        have f2 : ((t : Int) + 1 == 0) = false := by simp; omega
        clear hux hn
        go_wp2_with fail
        go_round
        case rel => exact ⟨x + 1, t + 1, by omega, by omega, by go_num, by go_num, by omega, HN.out⟩
        case measure => simp [intOf]; omega
      · have f1 : (((s[x].toNat : Nat) : Int) == 117) = false := by simp; omega
        have hn := hN_down hd hlL (by rw [hg]; exact hux)
        have hxi : x ≠ i := fun e => by
          subst e
          have := HA.out.2.2.2 (x + 1) (by omega) (by omega)
          omega
        have ht1 : 1 ≤ t := by
          have := HA.out.2.2.2 x (by omega) (by omega)
          have := HT.out
          omega
        have HN := Lib.hid (show hN (L s) (x + 1) = hN (L s) i + (t - 1) by rw [hn.2, HT.out]; omega)
        by_cases hxj : x = j
        · subst hxj
          have f2 : ((t : Int) - 1 == 0) = true := by
            have := HA.out.2.2.1
            have := HN.out
            simp; omega
          clear hux hn hxi
          go_wp2_with fail
          go_ret
          exact ⟨rfl, rfl⟩
        · have f2 : ((t : Int) - 1 == 0) = false := by
            have := HA.out.2.2.2 (x + 1) (by omega) (by omega)
            have := HN.out
            simp; omega
          clear hux hn hxi
          go_wp2_with fail
          go_round
          case rel => exact ⟨x + 1, t - 1, by omega, by omega, by go_num, by go_num, by omega, HN.out⟩
          case measure => simp [intOf]; omega
  · obtain ⟨hi2, hu⟩ := ha.right hd
    have f1 : (((s[i].toNat : Nat) : Int) == 117) = false := by
      have : (L s)[i] = s[i] := L_get s i hi
      rw [this] at hu; simp; omega
    have HA := Lib.hid ha
    have hij := ha.1
    clear ha
    go_enter Try.func184, Try.ntmps184
    go_wp2_with fail
    go_loop [5, 7] (fun h k => ∃ x t : Nat, j ≤ x ∧ x ≤ i ∧ k = .int .i64 x ∧ h = .int .i64 (t : Int) ∧ t ≤ 1000 ∧ Hid (hN (L s) (x + 1) = hN (L s) j + t)) (fun _ k => (intOf k).toNat)
    case atStart => exact ⟨i, 0, by omega, by omega, rfl, rfl, by omega, HA.out.2.2.1⟩
    case round =>
      clear f1
      obtain ⟨x, t, hx1, hx2, rfl, rfl, ht, HT⟩ := hrel
      have hlt : x < s.size := by omega
      have hlL : x < (L s).length := by rw [L_len]; exact hlt
      have hxb : t ≤ 16 := by have := hN_le (L s) hd (x + 1) (by omega); have := HT.out; omega
      have hg : (L s)[x] = s[x] := L_get s x hlt
      by_cases hux : s[x].toNat = 117
      · have f1 : (((s[x].toNat : Nat) : Int) == 100) = false := by simp; omega
        have hn := hN_up hd hlL (by rw [hg]; exact hux)
        have hxi : x ≠ i := fun e => by
          subst e
          have := HA.out.2.2.1
          have := HA.out.2.2.2 x (by omega) (by omega)
          omega
        have ht1 : 1 ≤ t := by
          have := HA.out.2.2.2 (x + 1) (by omega) (by omega)
          have := HT.out
          omega
        have HN := Lib.hid (show hN (L s) x = hN (L s) j + (t - 1) by have := HT.out; omega)
        by_cases hxj : x = j
        · subst hxj
          have f2 : ((t : Int) - 1 == 0) = true := by
            have := HN.out
            simp; omega
          clear hux hn hxi
          go_wp2_with fail
          go_ret
          exact ⟨rfl, rfl⟩
        · have f2 : ((t : Int) - 1 == 0) = false := by
            have := HA.out.2.2.2 x (by omega) (by omega)
            have := HN.out
            simp; omega
          clear hux hn hxi
          go_wp2_with fail
          go_round
          case rel => exact ⟨x - 1, t - 1, by omega, by omega, by go_num, by go_num, by omega, by rw [show x - 1 + 1 = x by omega]; exact HN.out⟩
          case measure => simp [intOf]; omega
      · have hdd : s[x].toNat = 100 := by rw [← hg]; exact (dyck_letter hd hlL).resolve_left (by rw [hg]; exact hux)
        have f1 : (((s[x].toNat : Nat) : Int) == 100) = true := by simp; omega
        have hn := hN_down hd hlL (by rw [hg]; exact hux)
        have hxj : x ≠ j := fun e => by
          subst e
          have := HA.out.2.2.2 (x + 1) (by omega) (by omega)
          omega
        have HN := Lib.hid (show hN (L s) x = hN (L s) j + (t + 1) by have := HT.out; omega)
        have f2 : ((t : Int) + 1 == 0) = false := by simp; omega
        clear hux hn hdd
        go_wp2_with fail
        go_round
        case rel => exact ⟨x - 1, t + 1, by omega, by omega, by go_num, by go_num, by omega, by rw [show x - 1 + 1 = x by omega]; exact HN.out⟩
        case measure => simp [intOf]; omega
theorem specMatchingOf_any (s : ByteArray) (w : World) (hs : s.size ≤ 1099511627776) :
    Calls Try.prog 32 #[.string s] w (RetIB w (mofR (L s))) := by
  by_cases hp : DyckP (L s)
  · have hl16 := hp.1
    rw [L_len] at hl16
    have hpl : (prt (L s)).length = s.size := by rw [prt_len hp, L_len]
    have HV := Lib.hid (show mofR (L s) = (prt (L s), true) by unfold mofR; rw [if_pos hp])
    have HI : Hid (∀ wq, Calls Try.prog 183 #[.string s] wq fun e w' => e = .returned (.bool true) ∧ wq = w') := fun wq => (specIsDyck_any s wq hs).mono fun e w' h => ⟨by rw [h.1]; simp [hp], h.2⟩
    have HD := Lib.hid hp
    go_enter Try.func32, Try.ntmps32
    go_wp2_with fail
    have own0 := OwI.empty_ w w.heap.size (Nat.le_refl _)
    have hB0 : Below w.heap.size w (w.alloc (.cells #[] 3)) := (Below.refl _ _).alloc (Nat.le_refl _) _
    generalize w.alloc (.cells #[] 3) = w0 at own0 hB0 ⊢
    go_loopw [4, 5] (fun v i wr => ∃ k : Nat, k ≤ s.size ∧ i = .int .i64 k ∧ OwI wr w.heap.size v ((prt (L s)).take k) ∧ Below w.heap.size w wr) (fun _ i _ => s.size - (intOf i).toNat)
    case atStart => exact ⟨0, by omega, rfl, own0, hB0⟩
    case round =>
      clear own0 hB0
      obtain ⟨k, hk, rfl, hown, hB⟩ := hrel
      have hsz := hB.size
      by_cases hlt : k < s.size
      · obtain ⟨j, hj, hpr⟩ := prt_get HD.out (i := k) (by rw [L_len]; exact hlt)
        have hlen : ((prt (L s)).take k).length < 1099511627776 := by rw [List.length_take]; omega
        have HT := Lib.hid (show (prt (L s)).take (k + 1) = (prt (L s)).take k ++ [(j : Int)] by rw [take_succ_get _ _ (by omega), hj])
        have HPR := Lib.hid hpr
        clear hj hpr
        go_wp2_with (first
          | (go_at_call 183; refine (HI.out _).mono ?_; rintro e w' ⟨rfl, rfl⟩)
          | (go_at_call 184; refine (l4Partner_any s k j _ HD.out hlt HPR.out).mono ?_; rintro e w' ⟨rfl, rfl⟩)
          | (at_builtin; refine wpList_appI _ rfl _ _ rfl w.heap.size _ _ rfl hown _ rfl rfl hlen hsz ?_))
        intro v' w1 hown1 hg1 hat1
        have hB1 := below_of_own hB hg1 hsz (fun g hg => (hown.lt g hg).1)
        clear hown hg1 hat1
        go_wp2_with fail
        go_roundw
        case rel => exact ⟨k + 1, by omega, by go_num, by rw [HT.out]; exact hown1, hB1⟩
        case measure => simp [intOf]; omega
      · have hke : k = s.size := by omega
        subst hke
        have HE := Lib.hid (show mofR (L s) = ((prt (L s)).take s.size, true) by rw [HV.out, List.take_of_length_le (by omega)])
        go_wp2_with (go_at_call 183; refine (HI.out _).mono ?_; rintro e w' ⟨rfl, rfl⟩)
        go_ret2
        exact RetIB.mk HE.out hown hB
  · have HV := Lib.hid (show mofR (L s) = ([], false) by unfold mofR; rw [if_neg hp])
    have HI : Hid (∀ wq, Calls Try.prog 183 #[.string s] wq fun e w' => e = .returned (.bool false) ∧ wq = w') := fun wq => (specIsDyck_any s wq hs).mono fun e w' h => ⟨by rw [h.1]; simp [hp], h.2⟩
    clear hp
    go_enter Try.func32, Try.ntmps32
    go_wp2_with fail
    have own0 := OwI.empty_ w w.heap.size (Nat.le_refl _)
    have hB0 : Below w.heap.size w (w.alloc (.cells #[] 3)) := (Below.refl _ _).alloc (Nat.le_refl _) _
    by_cases h0 : 0 < s.size
    all_goals (
      refine wp_loop_rounds 1 ?_
      rw [rounds_succ]
      go_wp2_with (go_at_call 183; refine (HI.out _).mono ?_; rintro e w' ⟨rfl, rfl⟩)
      go_ret2
      exact RetIB.mk HV.out own0 hB0)
set_option maxHeartbeats 1000000 in
theorem partners_any (s : ByteArray) (w : World) (hp : DyckP (L s)) :
    Calls Try.prog 189 #[.string s] w (RetI w (prt (L s))) := by
  have hl16 := hp.1
  rw [L_len] at hl16
  go_enter Try.func189, Try.ntmps189
  go_wp2_with (at_make; refine wpList_makeI _ rfl _ _ rfl _ _ _ _ s.size rfl rfl rfl rfl (by omega) ?_)
  intro w2 hown b2
  have hsz2 := b2.size
  have own1 := hown
  have hap0 : Apart (.slice (some ⟨w.heap.size, 0, none⟩) s.size s.size) (.slice (some ⟨w2.heap.size, 0, none⟩) 0 0) := fun g h1 h2 => by
    have := (hown.lt g h1).2
    simp [Value.ownBlock] at h2; omega
  clear hown
  go_wp2_with fail
  have own2 := OwI.empty_ w2 w.heap.size hsz2
  have own1 := OwI.below own1 ((Below.refl _ _).alloc (Nat.le_refl _) (.cells #[] 3))
  have B3 : Below w.heap.size w (w2.alloc (.cells #[] 3)) := b2.alloc hsz2 _
  generalize w2.alloc (.cells #[] 3) = w3 at own1 own2 B3 ⊢
  go_loopw [4, 5] (fun vs i wr => ∃ (k : Nat) (t : PtS), k ≤ s.size ∧ i = .int .i64 k ∧ OwI wr w.heap.size (.slice (some ⟨w.heap.size, 0, none⟩) s.size s.size) t.out ∧ OwI wr w.heap.size vs t.st ∧ Apart (.slice (some ⟨w.heap.size, 0, none⟩) s.size s.size) vs ∧ Hid (PtInv (L s) k t) ∧ Below w.heap.size w wr) (fun _ i _ => s.size - (intOf i).toNat)
  case atStart => exact ⟨0, _, by omega, rfl, by rw [L_len]; exact own1, own2, hap0, PtInv.start (L s), B3⟩
  case round =>
    clear own1 own2 hap0 B3 b2 hsz2
    obtain ⟨k, t, hk, rfl, hpp, hst, hap, HI, hB⟩ := hrel
    have hsz := hB.size
    by_cases hlt : k < s.size
    · have hlL : k < (L s).length := by rw [L_len]; exact hlt
      by_cases hu : s[k].toNat = 117
      · have f1 : (((s[k].toNat : Nat) : Int) == 117) = true := by simp; omega
        have HN := Lib.hid (HI.out.up hp hlL hu)
        have hlen : t.st.length < 1099511627776 := by
          have h1 := HI.out.ht
          have h2 := hN_le (L s) hp k (by omega)
          omega
        clear hu
        go_wp2_with (at_builtin; refine wpList_appI _ rfl _ _ rfl w.heap.size _ _ rfl hst _ rfl rfl hlen hsz ?_)
        intro v' w4 hst4 hg4 hat4
        have hB4 := below_of_own hB hg4 hsz (fun g hg => (hst.lt g hg).1)
        have R := (OwI_is.1 hpp).after_app hap.symm hg4 hat4
        have HR := Lib.hid R
        clear R hst hpp hap hg4 hat4
        go_wp2_with fail
        go_roundw
        case rel => exact ⟨k + 1, ⟨t.out, t.st ++ [(k : Int)]⟩, by omega, by go_num, HR.out.1, hst4, HR.out.2.symm, HN.out, hB4⟩
        case measure => simp [intOf]; omega
      · have f1 : (((s[k].toNat : Nat) : Int) == 117) = false := by simp; omega
        obtain ⟨ys, j, hys, hj, ha⟩ := HI.out.top hp hlL hu
        have HN := Lib.hid (HI.out.down hp hlL hu hys hj ha)
        have hplen := HI.out.len
        rw [L_len] at hplen
        have hxl : j < t.out.length := by omega
        have hkl : k < t.out.length := by omega
        rw [hys] at hst
        obtain ⟨g, cap, rfl, hgb, hgs, hcx, hcap, hst2⟩ := OwR.pop (OwI_is.1 hst)
        have c1 := hcx
        have c2 := hpp.cellAt _ hkl
        have c3 := hpp.frozenAt k
        have hs5 := hpp.stored k (j : Int)
        have c5 := hs5.1.cellAt j (by simp; exact hxl)
        have c6 := hs5.1.frozenAt j
        have hs6 := hs5.1.stored j (k : Int)
        have hap2 : Apart (.slice (some ⟨w.heap.size, 0, none⟩) s.size s.size) (.slice (some ⟨g, 0, none⟩) ys.length cap) := fun j h1 h2 => hap j h1 h2
        have hst5 := hst2.other (u := .slice (some ⟨w.heap.size, 0, none⟩) s.size s.size) hs5.2 hap2.symm
        have hst6 := hst5.other (u := .slice (some ⟨w.heap.size, 0, none⟩) s.size s.size) hs6.2 hap2.symm
        have HS := Lib.hid hs6.1
        have hyc : ys.length ≤ cap := by omega
        have hyb : ys.length ≤ 1099511627776 := by have := hst.2; simp at this; omega
        have hkz : k < s.size := hlt
        have hjz : j < s.size := by omega
        clear hu hys hs5 hs6 hcx ha hst hst2 hst5
        go_wp2_with fail
        go_roundw
        case rel => exact ⟨k + 1, ⟨(t.out.set k (j : Int)).set j (k : Int), ys⟩, by omega, by go_num, HS.out, hst6, hap2, HN.out, (hB.setCell (Nat.le_refl _) _).setCell (Nat.le_refl _) _⟩
        case measure => simp [intOf]; omega
    · have hke : k = s.size := by omega
      have HE := Lib.hid (show prt (L s) = t.out by unfold prt; rw [L_len, ← hke, HI.out.is])
      go_wp2_with fail
      go_ret
      exact ⟨_, rfl, by rw [HE.out]; exact hpp, hB⟩
theorem implMatchingOf_any (s : ByteArray) (w : World) (_hs : s.size ≤ 1099511627776) :
    Calls Try.prog 106 #[.string s] w (RetIB w (mofR (L s))) := by
  by_cases hp : DyckP (L s)
  · have HV := Lib.hid (show mofR (L s) = (prt (L s), true) by unfold mofR; rw [if_pos hp])
    go_enter Try.func106, Try.ntmps106
    go_wp2_with fail
    refine (implIsDyck_any s _).mono ?_; rintro e w1 ⟨rfl, b1⟩
    go_wp2_with fail
    refine (partners_any s _ hp).mono ?_; rintro e w2 ⟨r, rfl, o2, b2⟩
    go_wp2_with fail
    go_ret2
    exact RetIB.mk HV.out (o2.mono b1.size) (below_then b1 b2)
  · have HV := Lib.hid (show mofR (L s) = ([], false) by unfold mofR; rw [if_neg hp])
    go_enter Try.func106, Try.ntmps106
    go_wp2_with fail
    refine (implIsDyck_any s _).mono ?_; rintro e w1 ⟨rfl, b1⟩
    go_wp2_with fail
    go_ret2
    exact RetIB.mk HV.out (OwI.empty_ _ _ b1.size) (b1.alloc b1.size _)
end Go.Proofs.Ytnkkgfeegaiakaa
