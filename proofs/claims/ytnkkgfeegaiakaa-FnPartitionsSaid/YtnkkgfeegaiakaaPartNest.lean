/- Contract of the program's IsNonnesting: returns whether the numbers are a partition without nested arcs. No condition. -/
import Derived.Test.YtnkkgfeegaiakaaPart
import Derived.Test.YtnkkgfeegaiakaaPlain12
namespace Go.Proofs.Ytnkkgfeegaiakaa
open Go.RowKit
theorem nest1_any (p : List Int) (A : Option Addr) (c B i : Nat) (w : World) (hcell : w.cell? ⟨B, 0, none⟩ = some (.slice A p.length c)) (hv : RdI w (.slice A p.length c) p) (hl : p.length ≤ 8) (hi : i < p.length) :
    Calls Try.prog 207 #[.int .i64 i, .pointer (some ⟨B, 0, none⟩)] w fun e w' => e = .returned (.int .i64 (nx p i)) ∧ ∃ q, w' = w.drewN q := by
  obtain ⟨b, o, rfl, _, hcl⟩ := hv.at_ (by omega)
  have d0 := hcl i hi
  go_enter Try.func207, Try.ntmps207
  go_wp2_with fail
  go_loopw [4] (fun x wr => ∃ k : Nat, i < k ∧ k ≤ p.length ∧ x = .int .i64 k ∧ Hid (∀ j, i < j → j < k → p.getD j 0 ≠ p.getD i 0) ∧ ∃ q, wr = w.drewN q) (fun x _ => p.length - (intOf x).toNat)
  case atStart => exact ⟨i + 1, by omega, by omega, by go_num, fun j h h' => absurd h (by omega), 0, rfl⟩
  case round =>
    obtain ⟨k, hik, hk, rfl, HK, q, rfl⟩ := hrel
    by_cases hlt : k < p.length
    · have d1 := hcl k hlt
      have hc : (w.drewN q).cell? ⟨B, 0, none⟩ = some (.slice (some ⟨b, o, none⟩) p.length c) := hcell
      by_cases he : p[k] = p[i]
      · have f1 : (p[k] == p[i]) = true := by simpa using he
        have HE := Lib.hid (nx_some hik hlt (by rw [getD_of hlt, getD_of hi, he]) HK.out)
        clear he hcl
        go_wp2_with fail
        go_quiet (fail)
        go_wp2_with fail
        go_ret
        exact ⟨ret_int HE.out.symm, _, drewN_two _ _ _⟩
      · have f1 : (p[k] == p[i]) = false := by simpa using he
        have HE := Lib.hid (show p.getD k 0 ≠ p.getD i 0 by rw [getD_of hlt, getD_of hi]; exact he)
        clear he hcl
        go_wp2_with fail
        go_quiet (fail)
        go_wp2_with fail
        go_roundw
        case rel =>
          refine ⟨k + 1, by omega, by omega, by go_num, fun j h h' => ?_, _, rfl⟩
          rcases Nat.lt_or_ge j k with h1 | h1
          · exact HK.out j h h1
          · obtain rfl : j = k := by omega
            exact HE.out
        case measure => simp [intOf]; omega
    · have HE := Lib.hid (nx_none (p := p) (i := i) (fun j h h' => HK.out j h (by omega)))
      have hc : (w.drewN q).cell? ⟨B, 0, none⟩ = some (.slice (some ⟨b, o, none⟩) p.length c) := hcell
      clear hcl
      go_wp2_with fail
      go_ret
      exact ⟨ret_int HE.out.symm, q, rfl⟩
set_option maxHeartbeats 800000 in
theorem implIsNonnesting_any (v : Value) (p : List Int) (w : World) (hv : RdI w v p) :
    Calls Try.prog 101 #[v] w fun e w' => e = .returned (.bool (decide (NnP p))) ∧ Below w.heap.size w w' := by
  have hv0 := hv
  obtain ⟨A, c, rfl, hc, hl, _⟩ := hv
  have hB0 : Below w.heap.size w (w.alloc (.cells #[.slice A p.length c] 38)) := (Below.refl _ _).alloc (Nat.le_refl _) _
  have hcB : (w.alloc (.cells #[.slice A p.length c] 38)).cell? ⟨w.heap.size, 0, none⟩ = some (.slice A p.length c) := by
    unfold World.cell?
    rw [heap_alloc_new]
    rfl
  have HP0 := implIsPartition_any _ _ _ (hv0.below hB0)
  by_cases hP : PartP p
  · simp only [decide_eq_true hP] at HP0
    have h8 := hP.1
    have HP := Lib.hid hP
    clear hP
    go_enter Try.func101, Try.ntmps101
    go_wp2_with fail
    refine HP0.mono ?_; rintro e w' ⟨rfl, rfl⟩
    have hv1 := hv0.below hB0
    generalize hw0 : w.alloc (.cells #[.slice A p.length c] 38) = w0 at *
    generalize hbx : w.heap.size = BX at *
    go_wp2_with fail
    go_loopw [13] (fun x wr => ∃ a : Nat, a ≤ p.length ∧ x = .int .i64 a ∧ Hid (∀ a', a' < a → ∀ b, b < p.length → nnAt p a' b = false) ∧ ∃ q, wr = w0.drewN q) (fun x _ => p.length - (intOf x).toNat)
    case atStart => exact ⟨0, by omega, rfl, fun a h => absurd h (by omega), 0, rfl⟩
    case round =>
      obtain ⟨a, ha, rfl, HA, q, rfl⟩ := hrel
      by_cases hlt : a < p.length
      · go_wp2_with fail
        go_loopw [5] (fun x wr => ∃ b : Nat, a < b ∧ b ≤ p.length ∧ x = .int .i64 b ∧ Hid (∀ b', b' < b → nnAt p a b' = false) ∧ ∃ q, wr = w0.drewN q) (fun x _ => p.length - (intOf x).toNat)
        case atStart => exact ⟨a + 1, by omega, by omega, by go_num, fun b h => by simp [nnAt, show ¬ a < b from by omega], _, rfl⟩
        case round =>
          obtain ⟨b, hab, hb, rfl, HBB, q2, rfl⟩ := hrel
          have hcw : ∀ n, (w0.drewN n).cell? ⟨BX, 0, none⟩ = some (.slice A p.length c) := fun _ => hcB
          have hc2 := hcw q2
          by_cases hlt2 : b < p.length
          · have HCA : Hid (∀ n, Calls Try.prog 207 #[.int .i64 a, .pointer (some ⟨BX, 0, none⟩)] (w0.drewN n) fun e w' => e = .returned (.int .i64 (nx p a)) ∧ ∃ q, w' = (w0.drewN n).drewN q) := fun n => nest1_any p A c BX a _ (hcw n) (hv1.drewN n) h8 hlt
            have HCB : Hid (∀ n, Calls Try.prog 207 #[.int .i64 b, .pointer (some ⟨BX, 0, none⟩)] (w0.drewN n) fun e w' => e = .returned (.int .i64 (nx p b)) ∧ ∃ q, w' = (w0.drewN n).drewN q) := fun n => nest1_any p A c BX b _ (hcw n) (hv1.drewN n) h8 hlt2
            have hna := nx_ge p a
            have hnb := nx_ge p b
            have HAT := Lib.hid (show nnAt p a b = (decide (0 ≤ nx p b) && decide (nx p b < nx p a)) by simp [nnAt, hab])
            clear hcw
            generalize hx : nx p a = X at *
            generalize hy : nx p b = Y at *
            have HX := Lib.hid hx
            have HY := Lib.hid hy
            clear hx hy
            by_cases h0 : 0 ≤ Y
            · by_cases h1 : Y < X
              · have HF := Lib.hid (show ¬ NnP p from fun h => by
                  have g := nnI_iff.1 h.2 a hlt b hlt2
                  rw [HAT.out] at g
                  simp [h0, h1] at g)
                go_wp2_with fail
                refine (HCB.out q2).mono ?_; rintro e w2 ⟨rfl, m, rfl⟩
                rw [drewN_two]
                go_wp2_with (go_at_call 207; refine (HCA.out _).mono ?_; rintro e w3 ⟨rfl, m2, rfl⟩)
                go_ret
                exact ⟨ret_bool (by simp [HF.out]), by rw [hbx]; exact below_drewN hB0 _⟩
              · have HAF := Lib.hid (show nnAt p a b = false by rw [HAT.out]; simp [h1])
                go_wp2_with fail
                refine (HCB.out q2).mono ?_; rintro e w2 ⟨rfl, m, rfl⟩
                rw [drewN_two]
                go_wp2_with (go_at_call 207; refine (HCA.out _).mono ?_; rintro e w3 ⟨rfl, m2, rfl⟩)
                go_roundw
                case rel =>
                  refine ⟨b + 1, by omega, by omega, by go_num, fun b' h => ?_, _, rfl⟩
                  rcases Nat.lt_or_ge b' b with g | g
                  · exact HBB.out b' g
                  · obtain rfl : b' = b := by omega
                    exact HAF.out
                case measure => simp [intOf]; omega
            · have HAF := Lib.hid (show nnAt p a b = false by rw [HAT.out]; simp [h0])
              go_wp2_with fail
              refine (HCB.out q2).mono ?_; rintro e w2 ⟨rfl, m, rfl⟩
              rw [drewN_two]
              go_wp2_with fail
              go_roundw
              case rel =>
                refine ⟨b + 1, by omega, by omega, by go_num, fun b' h => ?_, _, rfl⟩
                rcases Nat.lt_or_ge b' b with g | g
                · exact HBB.out b' g
                · obtain rfl : b' = b := by omega
                  exact HAF.out
              case measure => simp [intOf]; omega
          · have hbe : b = p.length := by omega
            go_wp2_with fail
            go_roundw
            case rel =>
              refine ⟨a + 1, by omega, by go_num, fun a' h b' hb' => ?_, _, rfl⟩
              rcases Nat.lt_or_ge a' a with g | g
              · exact HA.out a' g b' hb'
              · obtain rfl : a' = a := by omega
                exact HBB.out b' (by omega)
            case measure => simp [intOf]; omega
      · have HF := Lib.hid (show NnP p from ⟨HP.out, nnI_iff.2 fun a' h b' hb' => HA.out a' (by omega) b' hb'⟩)
        go_wp2_with fail
        go_ret
        exact ⟨ret_bool (by simp [HF.out]), by rw [hbx]; exact below_drewN hB0 _⟩
  · simp only [decide_eq_false hP] at HP0
    have HF := Lib.hid (show ¬ NnP p from fun h => hP h.1)
    clear hP
    go_enter Try.func101, Try.ntmps101
    go_wp2_with fail
    refine HP0.mono ?_; rintro e w' ⟨rfl, rfl⟩
    go_wp2_with fail
    go_ret
    exact ⟨ret_bool (by simp [HF.out]), hB0⟩
end Go.Proofs.Ytnkkgfeegaiakaa
