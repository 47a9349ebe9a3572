/- Contracts of RenumberBlocks, the program's and the reference's, and of the reference's helper. No condition but the slice's size. -/
import Derived.Test.YtnkkgfeegaiakaaNum
import Derived.Test.YtnkkgfeegaiakaaPlain6
import Derived.Test.YtnkkgfeegaiakaaGround
namespace Go.Proofs.Ytnkkgfeegaiakaa
open Go.RowKit
set_option maxHeartbeats 1000000 in
theorem l8Renumber_any (v : Value) (l : List Int) (w : World) (hv : RdI w v l) (hl8 : l.length ≤ 1000) :
    Calls Try.prog 204 #[v] w (RetI w (rnL l)) := by
  have hv0 := hv
  obtain ⟨A, c, rfl, hc, hl, _⟩ := hv
  go_enter Try.func204, Try.ntmps204
  go_wp2_with fail
  have own1 := OwI.empty_ w w.heap.size (Nat.le_refl _)
  have hs : (w.alloc (.cells #[] 3)).heap.size = w.heap.size + 1 := by simp
  have own2 := OwI.empty_ (w.alloc (.cells #[] 3)) w.heap.size (by rw [hs]; omega)
  have hB0 : Below w.heap.size w ((w.alloc (.cells #[] 3)).alloc (.cells #[] 3)) := ((Below.refl _ _).alloc (Nat.le_refl _) _).alloc (by rw [hs]; omega) _
  have own1 := OwI.below own1 ((Below.refl _ _).alloc (Nat.le_refl _) (.cells #[] 3))
  rw [hs] at own2
  generalize (w.alloc (.cells #[] 3)).alloc (.cells #[] 3) = w0 at own1 own2 hB0 ⊢
  clear hs
  go_loopw [3, 4, 5] (fun x y i wr => ∃ k : Nat, k ≤ l.length ∧ i = .int .i64 k ∧ OwI wr w.heap.size x (rnL (l.take k)) ∧ OwI wr w.heap.size y (nm (l.take k)) ∧ Apart x y ∧ Below w.heap.size w wr) (fun _ _ i _ => l.length - (intOf i).toNat)
  case atStart => exact ⟨0, by omega, rfl, own1, own2, fun g h1 h2 => by simp [Value.ownBlock] at h1 h2; omega, hB0⟩
  case round =>
    clear own1 own2 hB0
    obtain ⟨k, hk, rfl, ho, hn, hap, hB⟩ := hrel
    have hsz := hB.size
    by_cases hlt : k < l.length
    · obtain ⟨b, o, rfl, hb, hcl⟩ := (hv0.below hB).at_ (by omega)
      have d0 := hcl k hlt
      clear hcl
      have HT := Lib.hid (take_succ_get l k hlt)
      have hnl : (nm (l.take k)).length ≤ 1000 := Nat.le_trans (nm_len _) (by simp; omega)
      have hol : (rnL (l.take k)).length ≤ 1000 := by rw [rnL_len]; simp; omega
      have HU := Lib.hid (nm_uniq (l.take k))
      generalize hN : nm (l.take k) = N at hn hnl HU
      have HN := Lib.hid hN
      clear hN
      generalize hO : rnL (l.take k) = O at ho hol
      have HO := Lib.hid hO
      clear hO
      have hnr := hn.rd
      obtain ⟨A2, c2, hv2, hc2, hl2, hA2⟩ := hnr
      have HV2 := Lib.hid hv2
      have hv2' := hv2
      subst hv2'
      obtain ⟨wo, rfl⟩ : ∃ wo : World, wo = wr := ⟨_, rfl⟩
      go_wp2_with fail
      go_loopw [6, 7] (fun a i wr => ∃ (j : Nat) (t : Int), j ≤ N.length ∧ i = .int .i64 j ∧ a = .int .i64 t ∧ Hid (t = atV N l[k] j) ∧ ∃ q, wr = wo.drewN q) (fun _ i _ => N.length - (intOf i).toNat)
      case atStart => exact ⟨0, -1, by omega, rfl, rfl, (atV_zero _ _).symm, 0, rfl⟩
      case round =>
        obtain ⟨j, t, hj, rfl, rfl, HA, q, rfl⟩ := hrel
        by_cases hjl : j < N.length
        · obtain ⟨b2, o2, rfl, _, h2⟩ := hA2 (by omega)
          have d1 := h2 j hjl
          clear h2 hA2
          by_cases he : N[j] = l[k]
          · have f1 : (N[j] == l[k]) = true := by simpa using he
            have HE := Lib.hid (atV_hit HU.out hjl he)
            clear he
            go_wp2_with fail
            go_quiet (fail)
            go_wp2_with fail
            go_roundw
            case rel => exact ⟨j + 1, j, by omega, by go_num, rfl, HE.out.symm, _, rfl⟩
            case measure => simp [intOf]; omega
          · have f1 : (N[j] == l[k]) = false := by simpa using he
            have HE := Lib.hid (atV_miss hjl he)
            clear he
            go_wp2_with fail
            go_quiet (fail)
            go_wp2_with fail
            go_roundw
            case rel => exact ⟨j + 1, t, by omega, by go_num, rfl, by show t = _; rw [HE.out, HA.out], _, rfl⟩
            case measure => simp [intOf]; omega
        · have hje : j = N.length := by omega
          clear hA2
          by_cases hmem : l[k] ∈ N
          · have R := rnL_snoc_old (l := l.take k) (x := l[k]) (by rw [HN.out]; exact hmem)
            rw [HN.out, HO.out] at R
            have HR := Lib.hid R
            have ht : t = ((ix N l[k] : Nat) : Int) := by rw [HA.out, hje, atV_end_old hmem]
            have hpos : ¬ t < 0 := by rw [ht]; omega
            have HTT := Lib.hid ht
            clear R ht hmem hje
            go_wp2_with (at_builtin; refine wpList_appI _ rfl _ _ rfl w.heap.size _ _ rfl (ho.drewN q) _ rfl rfl (by omega) (by simpa using hsz) ?_)
            intro v' w1 ho1 hg1 hat1
            have hB1 := below_of_own (below_drewN hB q) hg1 (by simpa using hsz) (fun g hg => (ho.lt g hg).1)
            have R2 := (OwI_is.1 (hn.drewN q)).after_app hap hg1 hat1
            have HR2 := Lib.hid R2
            clear R2 ho hn hap hg1 hat1
            go_wp2_with fail
            go_roundw
            case rel => exact ⟨k + 1, by omega, by go_num, by rw [HT.out, HR.out.2, ← HTT.out]; exact ho1, by rw [HT.out, HR.out.1]; exact HR2.out.1, HR2.out.2, hB1⟩
            case measure => simp [intOf]; omega
          · have R := rnL_snoc_new (l := l.take k) (x := l[k]) (by rw [HN.out]; exact hmem)
            rw [HN.out, HO.out] at R
            have HR := Lib.hid R
            have hneg : t < 0 := by rw [HA.out, hje, atV_end_new hmem]; omega
            clear R hmem hje
            go_wp2_with (at_builtin; refine wpList_appI _ rfl _ _ rfl w.heap.size _ _ rfl (hn.drewN q) _ rfl rfl (by omega) (by simpa using hsz) ?_)
            intro v' w1 hn1 hg1 hat1
            have hB1 := below_of_own (below_drewN hB q) hg1 (by simpa using hsz) (fun g hg => (hn.lt g hg).1)
            have R2 := (OwI_is.1 (ho.drewN q)).after_app hap.symm hg1 hat1
            have ho1 : OwI w1 w.heap.size _ O := R2.1
            have hap1 := R2.2.symm
            have hsz1 := hB1.size
            clear R2 ho hn hap hg1 hat1
            go_wp2_with (at_builtin; refine wpList_appI _ rfl _ _ rfl w.heap.size _ _ rfl ho1 _ rfl rfl (by omega) hsz1 ?_)
            intro v'' w2 ho2 hg2 hat2
            have hB2 := below_of_own hB1 hg2 hsz1 (fun g hg => (ho1.lt g hg).1)
            have R2 := (OwI_is.1 hn1).after_app hap1 hg2 hat2
            have HR2 := Lib.hid R2
            clear R2 ho1 hn1 hap1 hg2 hat2
            go_wp2_with fail
            go_roundw
            case rel => exact ⟨k + 1, by omega, by go_num, by rw [HT.out, HR.out.2]; exact ho2, by rw [HT.out, HR.out.1]; exact HR2.out.1, HR2.out.2, hB2⟩
            case measure => simp [intOf]; omega
    · have hke : l.take k = l := List.take_of_length_le (by omega)
      have HK := Lib.hid hke
      clear hke
      go_wp2_with fail
      go_ret
      exact RetI.mk rfl (by have := ho; rw [HK.out] at this; exact this) hB
theorem specRenumberBlocks_any (v : Value) (l : List Int) (w : World) (hv : RdI w v l) :
    Calls Try.prog 97 #[v] w (RetIB w (rnR l)) := by
  have hv0 := hv
  obtain ⟨A, c, rfl, hc, hl, _⟩ := hv
  by_cases h8 : l.length ≤ 8
  · have HV := Lib.hid (show rnR l = (rnL l, true) by unfold rnR; rw [if_pos h8])
    go_enter Try.func97, Try.ntmps97
    go_wp2_with fail
    refine (l8Renumber_any _ _ _ hv0 (by omega)).mono ?_; rintro e w1 ⟨r, rfl, o1, b1⟩
    go_wp2_with fail
    go_ret2
    exact RetIB.mk HV.out o1 b1
  · have HV := Lib.hid (show rnR l = ([], false) by unfold rnR; rw [if_neg h8])
    go_enter Try.func97, Try.ntmps97
    go_wp2_with fail
    go_ret2
    exact RetIB.mk HV.out (OwI.empty_ _ _ (Nat.le_refl _)) ((Below.refl _ _).alloc (Nat.le_refl _) _)
set_option maxHeartbeats 1000000 in
theorem implRenumberBlocks_any (v : Value) (l : List Int) (w : World) (hv : RdI w v l) :
    Calls Try.prog 96 #[v] w (RetIB w (rnR l)) := by
  have hv0 := hv
  obtain ⟨A, c, rfl, hc, hl, _⟩ := hv
  by_cases h8 : l.length ≤ 8
  · have HV := Lib.hid (show rnR l = (rnL l, true) by unfold rnR; rw [if_pos h8])
    go_enter Try.func96, Try.ntmps96
    go_wp2_with fail
    have own1 := OwI.empty_ w w.heap.size (Nat.le_refl _)
    go_loopw [4, 5, 18] (fun x n i wr => ∃ k t : Nat, k ≤ l.length ∧ i = .int .i64 k ∧ n = .int .i64 t ∧ t ≤ k ∧ Hid ((nm (l.take k)).length = t) ∧ OwI wr w.heap.size x (rnL (l.take k)) ∧ Below w.heap.size w wr) (fun _ _ i _ => l.length - (intOf i).toNat)
    case atStart => exact ⟨0, 0, by omega, rfl, rfl, by omega, rfl, own1, (Below.refl _ _).alloc (Nat.le_refl _) _⟩
    case round =>
      clear own1
      obtain ⟨k, t, hk, rfl, rfl, htk, HTN, ho, hB⟩ := hrel
      have hsz := hB.size
      by_cases hlt : k < l.length
      · obtain ⟨b, o, rfl, hb, hcl⟩ := (hv0.below hB).at_ (by omega)
        have d0 := hcl k hlt
        have HC := Lib.hid hcl
        clear hcl
        have HT := Lib.hid (take_succ_get l k hlt)
        have hol : (rnL (l.take k)).length ≤ 1000 := by rw [rnL_len]; simp; omega
        have hor := ho.rd
        obtain ⟨A2, c2, hv2, hc2, hl2, hA2⟩ := hor
        subst hv2
        have htl : (l.take k).length = k := by simp; omega
        have HTL := Lib.hid htl
        clear htl
        go_wp2_with fail
        go_loop [8, 28] (fun bb i => ∃ j : Nat, j ≤ k ∧ i = .int .i64 j ∧ bb = .int .i64 (t : Int) ∧ Hid (∀ i, i < j → l.getD i 0 ≠ l[k])) (fun _ i => k - (intOf i).toNat)
        case atStart => exact ⟨0, by omega, rfl, rfl, fun i h => absurd h (by omega)⟩
        case round =>
          obtain ⟨j, hj, rfl, rfl, HJ⟩ := hrel
          by_cases hjk : j < k
          · have d1 := HC.out j (by omega)
            by_cases he : l[k] = l[j]
            · have f1 : (l[k] == l[j]) = true := by simpa using he
              have hm : l[k] ∈ l.take k := by rw [he, List.mem_take_iff_getElem]; exact ⟨j, by omega, rfl⟩
              have hmem := (nm_mem (l.take k) l[k]).2 hm
              have R := rnL_snoc_old hmem
              have hix := ix_lt hmem
              have hjo : j < (rnL (l.take k)).length := by rw [rnL_len, HTL.out]; exact hjk
              have hval : (rnL (l.take k))[j] = ((ix (nm (l.take k)) l[k] : Nat) : Int) := by
                rw [rnL_get (by rw [HTL.out]; exact hjk), List.getElem_take, ← he]
              have hixt : ix (nm (l.take k)) l[k] < t := by rw [← HTN.out]; exact hix
              obtain ⟨b2, o2, rfl, _, h2⟩ := hA2 (by omega)
              have d2 := h2 j hjo
              rw [hval] at d2
              have HR := Lib.hid R
              generalize hix0 : ix (nm (l.take k)) l[k] = x0 at d2 hixt HR
              have hne : ((x0 : Int) == (t : Int)) = false := by simp; omega
              clear h2 hA2 he hm hmem R hix hval hix0
              go_wp2_with (at_builtin; refine wpList_appI _ rfl _ _ rfl w.heap.size _ _ rfl ho _ rfl rfl (by omega) hsz ?_)
              intro v' w1 ho1 hg1 hat1
              have hB1 := below_of_own hB hg1 hsz (fun g hg => (ho.lt g hg).1)
              clear ho hg1 hat1
              go_wp2_with fail
              go_roundw
              case rel => exact ⟨k + 1, t, by omega, by go_num, rfl, by omega, by show List.length _ = t; rw [HT.out, HR.out.1, HTN.out], by rw [HT.out, HR.out.2]; exact ho1, hB1⟩
              case measure => simp [intOf]; omega
            · have f1 : (l[k] == l[j]) = false := by simpa using he
              have HE := Lib.hid he
              clear he hA2
              go_wp2_with fail
              go_round
              case rel =>
                refine ⟨j + 1, by omega, by go_num, rfl, fun i h => ?_⟩
                rcases Nat.lt_or_ge i j with h1 | h1
                · exact HJ.out i h1
                · obtain rfl : i = j := by omega
                  rw [getD_of (by omega)]; exact fun e => HE.out e.symm
              case measure => simp [intOf]; omega
          · have hmem : l[k] ∉ nm (l.take k) := by
              rw [nm_mem, List.mem_take_iff_getElem]
              rintro ⟨i, hi, e⟩
              exact HJ.out i (by omega) (by rw [getD_of (by omega), e])
            have R := rnL_snoc_new hmem
            rw [HTN.out] at R
            have HR := Lib.hid R
            clear R hmem hA2
            go_wp2_with (at_builtin; refine wpList_appI _ rfl _ _ rfl w.heap.size _ _ rfl ho _ rfl rfl (by omega) hsz ?_)
            intro v' w1 ho1 hg1 hat1
            have hB1 := below_of_own hB hg1 hsz (fun g hg => (ho.lt g hg).1)
            clear ho hg1 hat1
            go_wp2_with fail
            go_roundw
            case rel => exact ⟨k + 1, t + 1, by omega, by go_num, by go_num, by omega, by show List.length _ = t + 1; rw [HT.out, HR.out.1, List.length_append, HTN.out]; rfl, by rw [HT.out, HR.out.2]; exact ho1, hB1⟩
            case measure => simp [intOf]; omega
      · have hke : l.take k = l := List.take_of_length_le (by omega)
        have HK := Lib.hid hke
        clear hke
        go_wp2_with fail
        go_ret2
        exact RetIB.mk HV.out (by have := ho; rw [HK.out] at this; exact this) hB
  · have HV := Lib.hid (show rnR l = ([], false) by unfold rnR; rw [if_neg h8])
    go_enter Try.func96, Try.ntmps96
    go_wp2_with fail
    go_ret2
    exact RetIB.mk HV.out (OwI.empty_ _ _ (Nat.le_refl _)) ((Below.refl _ _).alloc (Nat.le_refl _) _)
end Go.Proofs.Ytnkkgfeegaiakaa
