/- Contracts of MatchingOf, the program's and the reference's, and of what they call: the partner of a letter, and all partners. No condition but the word's size. -/
import Derived.Test.YtdjickibifcelaaPath
import Derived.Test.YtdjickibifcelaaPlain14
import Derived.Test.YtdjickibifcelaaStack
namespace Go.Proofs.Ytdjickibifcelaa
open Go.RowKit
set_option maxHeartbeats 1000000 in
theorem partners_any (s : ByteArray) (w : World) (hp : DyckP (L s)) :
    Calls Try.prog 55 #[.string s] w (RetI w (prt (L s))) := by
  have hl16 := hp.1
  rw [L_len] at hl16
  go_enter Try.func55, Try.ntmps55
  go_wp2_with (at_make; refine wpList_makeI _ rfl _ _ rfl _ _ _ _ s.size rfl rfl rfl rfl (by omega) ?_)
  intro w2 hown b2
  have hsz2 := b2.size
  have own1 := hown
  have hap0 : Apart (.slice (some ⟨w.heap.size, 0, none⟩) s.size s.size) (.slice (some ⟨w2.heap.size, 0, none⟩) 0 0) := fun g h1 h2 => by
    have := (hown.lt g h1).2
    simp [Value.ownBlock] at h2; omega
  clear hown
  go_wp2_with fail
  have own2 := OwI.empty_ w2 w.heap.size hsz2
  have own1 := OwI.below own1 ((Below.refl _ _).alloc (Nat.le_refl _) (.cells #[] 3))
  have B3 : Below w.heap.size w (w2.alloc (.cells #[] 3)) := b2.alloc hsz2 _
  generalize w2.alloc (.cells #[] 3) = w3 at own1 own2 B3 ⊢
  go_loopw [4, 5] (fun vs i wr => ∃ (k : Nat) (t : PtS), k ≤ s.size ∧ i = .int .i64 k ∧ OwI wr w.heap.size (.slice (some ⟨w.heap.size, 0, none⟩) s.size s.size) t.out ∧ OwI wr w.heap.size vs t.st ∧ Apart (.slice (some ⟨w.heap.size, 0, none⟩) s.size s.size) vs ∧ Hid (PtInv (L s) k t) ∧ Below w.heap.size w wr) (fun _ i _ => s.size - (intOf i).toNat)
  case atStart => exact ⟨0, _, by omega, rfl, by rw [L_len]; exact own1, own2, hap0, PtInv.start (L s), B3⟩
  case round =>
    clear own1 own2 hap0 B3 b2 hsz2
    obtain ⟨k, t, hk, rfl, hpp, hst, hap, HI, hB⟩ := hrel
    have hsz := hB.size
    by_cases hlt : k < s.size
    · have hlL : k < (L s).length := by rw [L_len]; exact hlt
      by_cases hu : s[k].toNat = 117
      · have f1 : (((s[k].toNat : Nat) : Int) == 117) = true := by simp; omega
        have HN := Lib.hid (HI.out.up hp hlL hu)
        have hlen : t.st.length < 1099511627776 := by
          have h1 := HI.out.ht
          have h2 := hN_le (L s) hp k (by omega)
          omega
        clear hu
        go_wp2_with (at_builtin; refine wpList_appI _ rfl _ _ rfl w.heap.size _ _ rfl hst _ rfl rfl hlen hsz ?_)
        intro v' w4 hst4 hg4 hat4
        have hB4 := below_of_own hB hg4 hsz (fun g hg => (hst.lt g hg).1)
        have R := (OwI_is.1 hpp).after_app hap.symm hg4 hat4
        have HR := Lib.hid R
        clear R hst hpp hap hg4 hat4
        go_wp2_with fail
        go_roundw
        case rel => exact ⟨k + 1, ⟨t.out, t.st ++ [(k : Int)]⟩, by omega, by go_num, HR.out.1, hst4, HR.out.2.symm, HN.out, hB4⟩
        case measure => simp [intOf]; omega
      · have f1 : (((s[k].toNat : Nat) : Int) == 117) = false := by simp; omega
        obtain ⟨ys, j, hys, hj, ha⟩ := HI.out.top hp hlL hu
        have HN := Lib.hid (HI.out.down hp hlL hu hys hj ha)
        have hplen := HI.out.len
        rw [L_len] at hplen
        have hxl : j < t.out.length := by omega
        have hkl : k < t.out.length := by omega
        rw [hys] at hst
        obtain ⟨g, cap, rfl, hgb, hgs, hcx, hcap, hst2⟩ := OwR.pop (OwI_is.1 hst)
        have c1 := hcx
        have c2 := hpp.cellAt _ hkl
        have c3 := hpp.frozenAt k
        have hs5 := hpp.stored k (j : Int)
        have c5 := hs5.1.cellAt j (by simp; exact hxl)
        have c6 := hs5.1.frozenAt j
        have hs6 := hs5.1.stored j (k : Int)
        have hap2 : Apart (.slice (some ⟨w.heap.size, 0, none⟩) s.size s.size) (.slice (some ⟨g, 0, none⟩) ys.length cap) := fun j h1 h2 => hap j h1 h2
        have hst5 := hst2.other (u := .slice (some ⟨w.heap.size, 0, none⟩) s.size s.size) hs5.2 hap2.symm
        have hst6 := hst5.other (u := .slice (some ⟨w.heap.size, 0, none⟩) s.size s.size) hs6.2 hap2.symm
        have HS := Lib.hid hs6.1
        have hyc : ys.length ≤ cap := by omega
        have hyb : ys.length ≤ 1099511627776 := by have := hst.2; simp at this; omega
        have hkz : k < s.size := hlt
        have hjz : j < s.size := by omega
        clear hu hys hs5 hs6 hcx ha hst hst2 hst5
        go_wp2_with fail
        go_roundw
        case rel => exact ⟨k + 1, ⟨(t.out.set k (j : Int)).set j (k : Int), ys⟩, by omega, by go_num, HS.out, hst6, hap2, HN.out, (hB.setCell (Nat.le_refl _) _).setCell (Nat.le_refl _) _⟩
        case measure => simp [intOf]; omega
    · have hke : k = s.size := by omega
      have HE := Lib.hid (show prt (L s) = t.out by unfold prt; rw [L_len, ← hke, HI.out.is])
      go_wp2_with fail
      go_ret
      exact ⟨_, rfl, by rw [HE.out]; exact hpp, hB⟩
end Go.Proofs.Ytdjickibifcelaa
