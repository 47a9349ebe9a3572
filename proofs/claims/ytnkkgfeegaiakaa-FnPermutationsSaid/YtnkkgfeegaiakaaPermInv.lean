/- Contracts of InverseOf, the program's and the reference's: both return the same slice and bool. No condition. -/
import Derived.Test.YtnkkgfeegaiakaaPerm
import Derived.Test.YtnkkgfeegaiakaaGround
namespace Go.Proofs.Ytnkkgfeegaiakaa
open Go.RowKit
theorem specInverseOf_any (v : Value) (p : List Int) (w : World) (hv : RdI w v p) :
    Calls Try.prog 67 #[v] w (RetIB w (invR p)) := by
  have hv0 := hv
  obtain ⟨A, c, rfl, hc, hl, _⟩ := hv
  by_cases hp : PermP p
  · have hl8 := hp.1
    have HV := Lib.hid (show invR p = (invL p p.length, true) by unfold invR; rw [if_pos hp])
    go_enter Try.func67, Try.ntmps67
    go_wp2_with fail
    refine (to_below (specIsPermutation_any _ _ _ hv0)).mono ?_; rintro e w1 ⟨rfl, b1⟩
    have hsz := b1.size
    go_wp2_with (at_make; refine wpList_makeI _ rfl _ _ rfl _ _ _ _ p.length rfl rfl rfl rfl (by omega) ?_)
    intro w2 hown b2
    go_wp2_with fail
    have hB0 := below_then b1 b2
    go_loopw [5] (fun i wr => ∃ k : Nat, k ≤ p.length ∧ i = .int .i64 k ∧ OwI wr w.heap.size (.slice (some ⟨w1.heap.size, 0, none⟩) p.length p.length) (invL p k) ∧ Below w.heap.size w wr) (fun i _ => p.length - (intOf i).toNat)
    case atStart => exact ⟨0, by omega, rfl, hown.mono hsz, hB0⟩
    case round =>
      clear hown hB0 b2
      obtain ⟨k, hk, rfl, hown, hB⟩ := hrel
      by_cases hlt : k < p.length
      · obtain ⟨b, o, rfl, hb, hcl⟩ := (hv0.below hB).at_ (by omega)
        have hr := hp.range hlt
        have hx : p[k].toNat < (invL p k).length := by rw [invL_len]; omega
        have c1 := hcl k hlt
        have c2 := hown.cellAt _ hx
        have c3 := hown.frozenAt p[k].toNat
        clear hcl
        have R := hown.stored p[k].toNat (k : Int)
        have HR := Lib.hid R
        clear R
        go_wp2_with fail
        go_roundw
        case rel => exact ⟨k + 1, by omega, by go_num, by rw [invL_succ, getD_of hlt]; exact HR.out.1, hB.setCell hsz _⟩
        case measure => simp [intOf]; omega
      · have hke : k = p.length := by omega
        go_wp2_with fail
        go_ret2
        subst hke
        exact RetIB.mk HV.out hown hB
  · have HV := Lib.hid (show invR p = ([], false) by unfold invR; rw [if_neg hp])
    go_enter Try.func67, Try.ntmps67
    go_wp2_with fail
    refine (to_below (specIsPermutation_any _ _ _ hv0)).mono ?_; rintro e w1 ⟨rfl, b1⟩
    go_wp2_with fail
    go_ret2
    exact RetIB.mk HV.out (OwI.empty_ _ _ b1.size) (b1.alloc b1.size _)
theorem implInverseOf_any (v : Value) (p : List Int) (w : World) (hv : RdI w v p) :
    Calls Try.prog 66 #[v] w (RetIB w (invR p)) := by
  have hv0 := hv
  obtain ⟨A, c, rfl, hc, hl, _⟩ := hv
  by_cases hp : PermP p
  · have hl8 := hp.1
    have HV := Lib.hid (show invR p = (invL p p.length, true) by unfold invR; rw [if_pos hp])
    go_enter Try.func66, Try.ntmps66
    go_wp2_with fail
    refine (implIsPermutation_any _ _ _ hv0).mono ?_; rintro e w1 ⟨rfl, b1⟩
    have hsz := b1.size
    go_wp2_with (at_make; refine wpList_makeI _ rfl _ _ rfl _ _ _ _ p.length rfl rfl rfl rfl (by omega) ?_)
    intro w2 hown b2
    go_wp2_with fail
    have hB0 := below_then b1 b2
    go_loopw [16] (fun i wr => ∃ k : Nat, k ≤ p.length ∧ i = .int .i64 k ∧ OwI wr w.heap.size (.slice (some ⟨w1.heap.size, 0, none⟩) p.length p.length) (invL p k) ∧ Below w.heap.size w wr) (fun i _ => p.length - (intOf i).toNat)
    case atStart => exact ⟨0, by omega, rfl, hown.mono hsz, hB0⟩
    case round =>
      clear hown hB0 b2
      obtain ⟨k, hk, rfl, hown, hB⟩ := hrel
      by_cases hlt : k < p.length
      · obtain ⟨b, o, rfl, hb, hcl⟩ := (hv0.below hB).at_ (by omega)
        have hr := hp.range hlt
        have hx : p[k].toNat < (invL p k).length := by rw [invL_len]; omega
        have c1 := hcl k hlt
        have c2 := hown.cellAt _ hx
        have c3 := hown.frozenAt p[k].toNat
        clear hcl
        have R := hown.stored p[k].toNat (k : Int)
        have HR := Lib.hid R
        clear R
        go_wp2_with fail
        go_roundw
        case rel => exact ⟨k + 1, by omega, by go_num, by rw [invL_succ, getD_of hlt]; exact HR.out.1, hB.setCell hsz _⟩
        case measure => simp [intOf]; omega
      · have hke : k = p.length := by omega
        go_wp2_with fail
        go_ret2
        subst hke
        exact RetIB.mk HV.out hown hB
  · have HV := Lib.hid (show invR p = ([], false) by unfold invR; rw [if_neg hp])
    go_enter Try.func66, Try.ntmps66
    go_wp2_with fail
    refine (implIsPermutation_any _ _ _ hv0).mono ?_; rintro e w1 ⟨rfl, b1⟩
    go_wp2_with fail
    go_ret2
    exact RetIB.mk HV.out (OwI.empty_ _ _ b1.size) (b1.alloc b1.size _)
end Go.Proofs.Ytnkkgfeegaiakaa
