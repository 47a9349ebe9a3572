/- Contracts of PermutationOf, the program's and the reference's: both return the same slice and bool. No condition but the word's size. -/
import Derived.Test.YtnkkgfeegaiakaaPath
import Derived.Test.YtnkkgfeegaiakaaGround
import Derived.Test.YtnkkgfeegaiakaaStack
namespace Go.Proofs.Ytnkkgfeegaiakaa
open Go.RowKit
set_option maxHeartbeats 1000000 in
theorem specPermutationOf_any (s : ByteArray) (w : World) (hs : s.size ≤ 1099511627776) :
    Calls Try.prog 62 #[.string s] w (RetIB w (poR (L s))) := by
  by_cases hp : DyckP (L s)
  · have hl16 := hp.1
    rw [L_len] at hl16
    have HV := Lib.hid (show poR (L s) = ((poS (L s) s.size).p, true) by unfold poR; rw [if_pos hp, L_len])
    go_enter Try.func62, Try.ntmps62
    go_wp2_with fail
    refine (to_below' (specIsDyck_any s _ hs)).mono ?_; rintro e w1 ⟨rfl, b1⟩
    go_wp2_with (at_make; refine wpList_makeI _ rfl _ _ rfl _ _ _ _ (s.size / 2) rfl rfl (by go_num) (by go_num) (by omega) ?_)
    intro w2 hown b2
    have B2 := below_then b1 b2
    have hsz2 := B2.size
    have own1 : OwI w2 w.heap.size (.slice (some ⟨w1.heap.size, 0, none⟩) (s.size / 2) (s.size / 2)) (List.replicate (s.size / 2) 0) := hown.mono b1.size
    have hw12 : w1.heap.size < w2.heap.size ∨ s.size / 2 = 0 := by
      rcases Nat.lt_or_ge w1.heap.size w2.heap.size with h | h
      · exact .inl h
      · have := (hown.lt w1.heap.size rfl).2; omega
    have hap0 : Apart (.slice (some ⟨w1.heap.size, 0, none⟩) (s.size / 2) (s.size / 2)) (.slice (some ⟨w2.heap.size, 0, none⟩) 0 0) := fun g h1 h2 => by
      have := (hown.lt g h1).2
      simp [Value.ownBlock] at h2; omega
    clear hown b2 hw12
    go_wp2_with fail
    have own2 := OwI.empty_ w2 w.heap.size hsz2
    have own1 := OwI.below own1 ((Below.refl _ _).alloc (Nat.le_refl _) (.cells #[] 3))
    have B3 : Below w.heap.size w (w2.alloc (.cells #[] 3)) := B2.alloc hsz2 _
    generalize w2.alloc (.cells #[] 3) = w3 at own1 own2 B3 ⊢
    go_loopw [5, 6, 7, 8] (fun vs n kk i wr => ∃ (k : Nat) (t : PoS), k ≤ s.size ∧ i = .int .i64 k ∧ n = .int .i64 (t.n : Int) ∧ kk = .int .i64 (t.k : Int) ∧ OwI wr w.heap.size (.slice (some ⟨w1.heap.size, 0, none⟩) (s.size / 2) (s.size / 2)) t.p ∧ OwI wr w.heap.size vs t.st ∧ Apart (.slice (some ⟨w1.heap.size, 0, none⟩) (s.size / 2) (s.size / 2)) vs ∧ Hid (PoInv (L s) k t) ∧ Below w.heap.size w wr) (fun _ _ _ i _ => s.size - (intOf i).toNat)
    case atStart => exact ⟨0, _, by omega, rfl, rfl, rfl, own1, own2, hap0, by have := PoInv.start (L s); rw [L_len] at this; exact this, B3⟩
    case round =>
      clear own1 own2 hap0 B3 B2 hsz2
      obtain ⟨k, t, hk, rfl, rfl, rfl, hpp, hst, hap, HI, hB⟩ := hrel
      have hsz := hB.size
      have hkle := HI.out.kle
      by_cases hlt : k < s.size
      · have hlL : k < (L s).length := by rw [L_len]; exact hlt
        by_cases hu : s[k].toNat = 117
        · have f1 : (((s[k].toNat : Nat) : Int) == 117) = true := by simp; omega
          have hn := HI.out.n_lt hp hlL hu
          rw [L_len] at hn
          have HN := Lib.hid (HI.out.up hp hlL hu)
          have hlen : t.st.length < 1099511627776 := by
            have h1 := fold_count ((L s).take k) 0 t.st.length HI.out.ht
            have h2 : ((L s).take k).length ≤ k := List.length_take_le _ _
            have h3 := cu_take_le (L s) k
            have h4 := dyck_half hp
            rw [L_len] at h4
            omega
          clear hu
          go_wp2_with (at_builtin; refine wpList_appI _ rfl _ _ rfl w.heap.size _ _ rfl hst _ rfl rfl hlen hsz ?_)
          intro v' w4 hst4 hg4 hat4
          have hB4 := below_of_own hB hg4 hsz (fun g hg => (hst.lt g hg).1)
          have R := (OwI_is.1 hpp).after_app hap.symm hg4 hat4
          have HR := Lib.hid R
          clear R hst hpp hap hg4 hat4
          go_wp2_with fail
          go_roundw
          case rel => exact ⟨k + 1, ⟨t.p, t.st ++ [(t.n : Int)], t.n + 1, t.k⟩, by omega, by go_num, by go_num, rfl, HR.out.1, hst4, HR.out.2.symm, HN.out, hB4⟩
          case measure => simp [intOf]; omega
        · have f1 : (((s[k].toNat : Nat) : Int) == 117) = false := by simp; omega
          obtain ⟨ys, x, hys, hx0, hx1⟩ := HI.out.nonempty hp hlL hu
          rw [L_len] at hx1
          have hN := HI.out.down hp hlL hu hys
          obtain ⟨xn, rfl⟩ := Int.eq_ofNat_of_zero_le hx0
          rw [Int.toNat_natCast] at hN
          have HN := Lib.hid hN
          clear hN
          have hplen := HI.out.len
          rw [L_len] at hplen
          have hxl : xn < t.p.length := by omega
          rw [hys] at hst
          obtain ⟨g, cap, rfl, hgb, hgs, hcx, hcap, hst2⟩ := OwR.pop (OwI_is.1 hst)
          have c1 := hcx
          have c2 := hpp.cellAt _ hxl
          have c3 := hpp.frozenAt xn
          have hs5 := hpp.stored xn (t.k : Int)
          have hap2 : Apart (.slice (some ⟨w1.heap.size, 0, none⟩) (s.size / 2) (s.size / 2)) (.slice (some ⟨g, 0, none⟩) ys.length cap) := fun j h1 h2 => hap j h1 h2
          have hst5 := hst2.other (u := .slice (some ⟨w1.heap.size, 0, none⟩) (s.size / 2) (s.size / 2)) hs5.2 hap2.symm
          have HS := Lib.hid hs5
          have hw1s : w.heap.size ≤ w1.heap.size := b1.size
          have hyc : ys.length ≤ cap := by omega
          have hyb : ys.length ≤ 1099511627776 := by have := hst.2; simp at this; omega
          have hxn : xn < s.size / 2 := by omega
          clear hu hys hs5 hcx hx0 hx1
          go_wp2_with fail
          go_roundw
          case rel => exact ⟨k + 1, ⟨t.p.set xn (t.k : Int), ys, t.n, t.k + 1⟩, by omega, by go_num, rfl, by go_num, HS.out.1, hst5, hap2, HN.out, hB.setCell hw1s _⟩
          case measure => simp [intOf]; omega
      · have hke : k = s.size := by omega
        have HE := Lib.hid (show poR (L s) = (t.p, true) by rw [HV.out, ← hke, HI.out.is])
        go_wp2_with fail
        go_ret2
        exact RetIB.mk HE.out hpp hB
  · have HV := Lib.hid (show poR (L s) = ([], false) by unfold poR; rw [if_neg hp])
    go_enter Try.func62, Try.ntmps62
    go_wp2_with fail
    refine (to_below' (specIsDyck_any s _ hs)).mono ?_; rintro e w1 ⟨rfl, b1⟩
    go_wp2_with fail
    go_ret2
    exact RetIB.mk HV.out (OwI.empty_ _ _ b1.size) (b1.alloc b1.size _)
set_option maxHeartbeats 1000000 in
theorem implPermutationOf_any (s : ByteArray) (w : World) (hs : s.size ≤ 1099511627776) :
    Calls Try.prog 61 #[.string s] w (RetIB w (poR (L s))) := by
  by_cases hp : DyckP (L s)
  · have hl16 := hp.1
    rw [L_len] at hl16
    have HV := Lib.hid (show poR (L s) = ((poS (L s) s.size).p, true) by unfold poR; rw [if_pos hp, L_len])
    go_enter Try.func61, Try.ntmps61
    go_wp2_with fail
    refine (implIsDyck_any s _).mono ?_; rintro e w1 ⟨rfl, b1⟩
    go_wp2_with (at_make; refine wpList_makeI _ rfl _ _ rfl _ _ _ _ (s.size / 2) rfl rfl (by go_num) (by go_num) (by omega) ?_)
    intro w2 hown b2
    have B2 := below_then b1 b2
    have hsz2 := B2.size
    have own1 : OwI w2 w.heap.size (.slice (some ⟨w1.heap.size, 0, none⟩) (s.size / 2) (s.size / 2)) (List.replicate (s.size / 2) 0) := hown.mono b1.size
    have hw12 : w1.heap.size < w2.heap.size ∨ s.size / 2 = 0 := by
      rcases Nat.lt_or_ge w1.heap.size w2.heap.size with h | h
      · exact .inl h
      · have := (hown.lt w1.heap.size rfl).2; omega
    have hap0 : Apart (.slice (some ⟨w1.heap.size, 0, none⟩) (s.size / 2) (s.size / 2)) (.slice (some ⟨w2.heap.size, 0, none⟩) 0 0) := fun g h1 h2 => by
      have := (hown.lt g h1).2
      simp [Value.ownBlock] at h2; omega
    clear hown b2 hw12
    go_wp2_with fail
    have own2 := OwI.empty_ w2 w.heap.size hsz2
    have own1 := OwI.below own1 ((Below.refl _ _).alloc (Nat.le_refl _) (.cells #[] 3))
    have B3 : Below w.heap.size w (w2.alloc (.cells #[] 3)) := B2.alloc hsz2 _
    generalize w2.alloc (.cells #[] 3) = w3 at own1 own2 B3 ⊢
    go_loopw [5, 6, 7, 8] (fun vs n kk i wr => ∃ (k : Nat) (t : PoS), k ≤ s.size ∧ i = .int .i64 k ∧ n = .int .i64 (t.n : Int) ∧ kk = .int .i64 (t.k : Int) ∧ OwI wr w.heap.size (.slice (some ⟨w1.heap.size, 0, none⟩) (s.size / 2) (s.size / 2)) t.p ∧ OwI wr w.heap.size vs t.st ∧ Apart (.slice (some ⟨w1.heap.size, 0, none⟩) (s.size / 2) (s.size / 2)) vs ∧ Hid (PoInv (L s) k t) ∧ Below w.heap.size w wr) (fun _ _ _ i _ => s.size - (intOf i).toNat)
    case atStart => exact ⟨0, _, by omega, rfl, rfl, rfl, own1, own2, hap0, by have := PoInv.start (L s); rw [L_len] at this; exact this, B3⟩
    case round =>
      clear own1 own2 hap0 B3 B2 hsz2
      obtain ⟨k, t, hk, rfl, rfl, rfl, hpp, hst, hap, HI, hB⟩ := hrel
      have hsz := hB.size
      have hkle := HI.out.kle
      by_cases hlt : k < s.size
      · have hlL : k < (L s).length := by rw [L_len]; exact hlt
        by_cases hu : s[k].toNat = 117
        · have f1 : (((s[k].toNat : Nat) : Int) == 117) = true := by simp; omega
          have hn := HI.out.n_lt hp hlL hu
          rw [L_len] at hn
          have HN := Lib.hid (HI.out.up hp hlL hu)
          have hlen : t.st.length < 1099511627776 := by
            have h1 := fold_count ((L s).take k) 0 t.st.length HI.out.ht
            have h2 : ((L s).take k).length ≤ k := List.length_take_le _ _
            have h3 := cu_take_le (L s) k
            have h4 := dyck_half hp
            rw [L_len] at h4
            omega
          clear hu
          go_wp2_with (at_builtin; refine wpList_appI _ rfl _ _ rfl w.heap.size _ _ rfl hst _ rfl rfl hlen hsz ?_)
          intro v' w4 hst4 hg4 hat4
          have hB4 := below_of_own hB hg4 hsz (fun g hg => (hst.lt g hg).1)
          have R := (OwI_is.1 hpp).after_app hap.symm hg4 hat4
          have HR := Lib.hid R
          clear R hst hpp hap hg4 hat4
          go_wp2_with fail
          go_roundw
          case rel => exact ⟨k + 1, ⟨t.p, t.st ++ [(t.n : Int)], t.n + 1, t.k⟩, by omega, by go_num, by go_num, rfl, HR.out.1, hst4, HR.out.2.symm, HN.out, hB4⟩
          case measure => simp [intOf]; omega
        · have f1 : (((s[k].toNat : Nat) : Int) == 117) = false := by simp; omega
          obtain ⟨ys, x, hys, hx0, hx1⟩ := HI.out.nonempty hp hlL hu
          rw [L_len] at hx1
          have hN := HI.out.down hp hlL hu hys
          obtain ⟨xn, rfl⟩ := Int.eq_ofNat_of_zero_le hx0
          rw [Int.toNat_natCast] at hN
          have HN := Lib.hid hN
          clear hN
          have hplen := HI.out.len
          rw [L_len] at hplen
          have hxl : xn < t.p.length := by omega
          rw [hys] at hst
          obtain ⟨g, cap, rfl, hgb, hgs, hcx, hcap, hst2⟩ := OwR.pop (OwI_is.1 hst)
          have c1 := hcx
          have c2 := hpp.cellAt _ hxl
          have c3 := hpp.frozenAt xn
          have hs5 := hpp.stored xn (t.k : Int)
          have hap2 : Apart (.slice (some ⟨w1.heap.size, 0, none⟩) (s.size / 2) (s.size / 2)) (.slice (some ⟨g, 0, none⟩) ys.length cap) := fun j h1 h2 => hap j h1 h2
          have hst5 := hst2.other (u := .slice (some ⟨w1.heap.size, 0, none⟩) (s.size / 2) (s.size / 2)) hs5.2 hap2.symm
          have HS := Lib.hid hs5
          have hw1s : w.heap.size ≤ w1.heap.size := b1.size
          have hyc : ys.length ≤ cap := by omega
          have hyb : ys.length ≤ 1099511627776 := by have := hst.2; simp at this; omega
          have hxn : xn < s.size / 2 := by omega
          clear hu hys hs5 hcx hx0 hx1
          go_wp2_with fail
          go_roundw
          case rel => exact ⟨k + 1, ⟨t.p.set xn (t.k : Int), ys, t.n, t.k + 1⟩, by omega, by go_num, rfl, by go_num, HS.out.1, hst5, hap2, HN.out, hB.setCell hw1s _⟩
          case measure => simp [intOf]; omega
      · have hke : k = s.size := by omega
        have HE := Lib.hid (show poR (L s) = (t.p, true) by rw [HV.out, ← hke, HI.out.is])
        go_wp2_with fail
        go_ret2
        exact RetIB.mk HE.out hpp hB
  · have HV := Lib.hid (show poR (L s) = ([], false) by unfold poR; rw [if_neg hp])
    go_enter Try.func61, Try.ntmps61
    go_wp2_with fail
    refine (implIsDyck_any s _).mono ?_; rintro e w1 ⟨rfl, b1⟩
    go_wp2_with fail
    go_ret2
    exact RetIB.mk HV.out (OwI.empty_ _ _ b1.size) (b1.alloc b1.size _)
end Go.Proofs.Ytnkkgfeegaiakaa
