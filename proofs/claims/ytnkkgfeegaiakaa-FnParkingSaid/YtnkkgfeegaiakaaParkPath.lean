/- Contracts of PathOfParking, the program's and the reference's: both return the same text and bool. No condition. -/
import Derived.Test.YtnkkgfeegaiakaaPark
import Derived.Test.YtnkkgfeegaiakaaPlain9
import Derived.Test.YtnkkgfeegaiakaaGround
namespace Go.Proofs.Ytnkkgfeegaiakaa
open Go.RowKit
set_option maxRecDepth 8000 in
set_option maxHeartbeats 400000 in
theorem specPathOfParking_any (v : Value) (f : List Int) (w : World) (hv : RdI w v f) :
    Calls Try.prog 137 #[v] w (RetSB w (ppR f)) := by
  have hv0 := hv
  obtain ⟨A, c, rfl, hc, hl, _⟩ := hv
  cases hp : (placesR f).2 with
  | true =>
    have hl6 := (placesR_ok hp).1.1
    have HV := Lib.hid (show ppR f = (ppL f f.length, true) by unfold ppR; rw [if_pos hp])
    go_enter Try.func137, Try.ntmps137
    go_wp2_with fail
    refine (specIsParking_any _ _ _ hv0).mono ?_; rintro e w1 ⟨rfl, b1⟩
    rw [hp]
    clear hp
    go_wp2_with fail
    go_loopw [4, 5] (fun x p wr => ∃ k : Nat, k ≤ f.length ∧ p = .int .i64 ((k : Int) + 1) ∧ x = .string (S (ppL f k)) ∧ Below w.heap.size w wr) (fun _ p _ => f.length + 1 - (intOf p).toNat)
    case atStart => exact ⟨0, by omega, rfl, rfl, b1⟩
    case round =>
      obtain ⟨k, hk, rfl, rfl, hB⟩ := hrel
      have hsz := hB.size
      have hkl := ppL_len f k
      have hkl2 : (ppL f k).length ≤ 100 := Nat.le_trans hkl (Nat.le_trans (Nat.mul_le_mul hk (Nat.le_refl _)) (Nat.le_trans (Nat.mul_le_mul hl6 (Nat.succ_le_succ hl6)) (by omega)))
      clear hkl
      by_cases hlt : k < f.length
      · have hlt' : (k : Int) + 1 ≤ (f.length : Int) := by omega
        obtain ⟨wo, rfl⟩ : ∃ wo : World, wo = wr := ⟨_, rfl⟩
        go_wp2_with fail
        go_loopw [4, 6] (fun x i wr => ∃ j : Nat, j ≤ f.length ∧ i = .int .i64 j ∧ x = .string (S (ppL f k ++ usL f (k + 1) j)) ∧ Below w.heap.size w wr) (fun _ i _ => f.length - (intOf i).toNat)
        case atStart => exact ⟨0, by omega, rfl, by simp [usL], hB⟩
        case round =>
          clear hB hsz
          obtain ⟨j, hj, rfl, rfl, hB⟩ := hrel
          have hsz := hB.size
          by_cases hjl : j < f.length
          · obtain ⟨b, o, rfl, _, hcl⟩ := (hv0.below hB).at_ (by omega)
            have c1 := hcl j hjl
            have HU := Lib.hid (usL_succ f (k + 1) j)
            have hg : f.getD j 0 = f[j] := getD_of hjl 0
            rw [hg] at HU
            clear hcl hg
            by_cases he : f[j] = (k : Int) + 1
            · have f1 : (f[j] == (k : Int) + 1) = true := by simpa using he
              have HE : Hid (f[j] = ((k + 1 : Nat) : Int)) := by show _ = _; omega
              clear he
              have hsz : (S (ppL f k ++ usL f (k + 1) j)).size ≤ 1000 := by rw [S_size, List.length_append]; have := usL_len f (k + 1) j; omega
              have HS := Lib.hid (show S (ppL f k ++ usL f (k + 1) j) ++ ⟨#[117]⟩ = S (ppL f k ++ usL f (k + 1) (j + 1)) by rw [S_snoc, HU.out, if_pos HE.out, List.append_assoc])
              go_wp2_with fail
              go_roundw
              case rel => exact ⟨j + 1, by omega, by go_num, by rw [HS.out], hB⟩
              case measure => simp [intOf]; omega
            · have f1 : (f[j] == (k : Int) + 1) = false := by simpa using he
              have HE : Hid (¬ f[j] = ((k + 1 : Nat) : Int)) := by show ¬ _; omega
              clear he
              have HS := Lib.hid (show ppL f k ++ usL f (k + 1) (j + 1) = ppL f k ++ usL f (k + 1) j by rw [HU.out, if_neg HE.out, List.append_nil])
              go_wp2_with fail
              go_roundw
              case rel => exact ⟨j + 1, by omega, by go_num, by rw [HS.out], hB⟩
              case measure => simp [intOf]; omega
          · have hsz : (S (ppL f k ++ usL f (k + 1) j)).size ≤ 1000 := by rw [S_size, List.length_append]; have := usL_len f (k + 1) j; omega
            have HS := Lib.hid (show S (ppL f k ++ usL f (k + 1) j) ++ ⟨#[100]⟩ = S (ppL f (k + 1)) by rw [S_snoc, ppL_succ, List.append_assoc, show j = f.length from by omega])
            go_wp2_with fail
            go_roundw
            case rel => exact ⟨k + 1, by omega, by go_num, by rw [HS.out], hB⟩
            case measure => simp [intOf]; omega
      · have hke : k = f.length := by omega
        have hlt' : ¬ (k : Int) + 1 ≤ (f.length : Int) := by omega
        go_wp2_with fail
        go_ret2
        subst hke
        exact RetSB.mk HV.out rfl hB
  | false =>
    have HV := Lib.hid (show ppR f = ([], false) by unfold ppR; rw [if_neg (by rw [hp]; simp)])
    go_enter Try.func137, Try.ntmps137
    go_wp2_with fail
    refine (specIsParking_any _ _ _ hv0).mono ?_; rintro e w1 ⟨rfl, b1⟩
    rw [hp]
    go_wp2_with fail
    go_ret2
    exact RetSB.mk HV.out rfl b1
set_option maxRecDepth 8000 in
set_option maxHeartbeats 400000 in
theorem implPathOfParking_any (v : Value) (f : List Int) (w : World) (hv : RdI w v f) :
    Calls Try.prog 128 #[v] w (RetSB w (ppR f)) := by
  have hv0 := hv
  obtain ⟨A, c, rfl, hc, hl, _⟩ := hv
  cases hp : (placesR f).2 with
  | true =>
    have hl6 := (placesR_ok hp).1.1
    have HV := Lib.hid (show ppR f = (ppL f f.length, true) by unfold ppR; rw [if_pos hp])
    go_enter Try.func128, Try.ntmps128
    go_wp2_with fail
    refine (implIsParking_any _ _ _ hv0).mono ?_; rintro e w1 ⟨rfl, b1⟩
    rw [hp]
    clear hp
    go_wp2_with fail
    have own0 := OwR.emptyB w1 w.heap.size b1.size
    have hB0 : Below w.heap.size w (w1.alloc (.cells #[] 5)) := b1.alloc b1.size _
    go_loopw [4, 5] (fun x p wr => ∃ k : Nat, k ≤ f.length ∧ p = .int .i64 ((k : Int) + 1) ∧ OwR 5 bf wr w.heap.size x (ppL f k) ∧ Below w.heap.size w wr) (fun _ p _ => f.length + 1 - (intOf p).toNat)
    case atStart => exact ⟨0, by omega, rfl, own0, hB0⟩
    case round =>
      clear own0 hB0
      obtain ⟨k, hk, rfl, hown, hB⟩ := hrel
      have hsz := hB.size
      have hkl := ppL_len f k
      have hkl2 : (ppL f k).length ≤ 100 := Nat.le_trans hkl (Nat.le_trans (Nat.mul_le_mul hk (Nat.le_refl _)) (Nat.le_trans (Nat.mul_le_mul hl6 (Nat.succ_le_succ hl6)) (by omega)))
      clear hkl
      by_cases hlt : k < f.length
      · have hlt' : (k : Int) + 1 ≤ (f.length : Int) := by omega
        obtain ⟨wo, rfl⟩ : ∃ wo : World, wo = wr := ⟨_, rfl⟩
        go_wp2_with fail
        go_loopw [4, 20] (fun x i wr => ∃ j : Nat, j ≤ f.length ∧ i = .int .i64 j ∧ OwR 5 bf wr w.heap.size x (ppL f k ++ usL f (k + 1) j) ∧ Below w.heap.size w wr) (fun _ i _ => f.length - (intOf i).toNat)
        case atStart => exact ⟨0, by omega, rfl, by rw [show usL f (k + 1) 0 = [] from rfl, List.append_nil]; exact hown, hB⟩
        case round =>
          clear hB hsz hown
          obtain ⟨j, hj, rfl, hown, hB⟩ := hrel
          have hsz := hB.size
          by_cases hjl : j < f.length
          · obtain ⟨b, o, rfl, _, hcl⟩ := (hv0.below hB).at_ (by omega)
            have c1 := hcl j hjl
            have HU := Lib.hid (usL_succ f (k + 1) j)
            have hg : f.getD j 0 = f[j] := getD_of hjl 0
            rw [hg] at HU
            clear hcl hg
            by_cases he : f[j] = (k : Int) + 1
            · have f1 : (f[j] == (k : Int) + 1) = true := by simpa using he
              have HE : Hid (f[j] = ((k + 1 : Nat) : Int)) := by show _ = _; omega
              clear he
              have HS := Lib.hid (show ppL f k ++ usL f (k + 1) (j + 1) = ppL f k ++ (usL f (k + 1) j ++ [117]) by rw [HU.out, if_pos HE.out])
              have hlen : (ppL f k ++ usL f (k + 1) j).length < 1099511627776 := by rw [List.length_append]; have := usL_len f (k + 1) j; omega
              go_wp2_with (at_builtin; refine wpList_appB _ rfl _ _ rfl w.heap.size _ _ rfl hown 117 _ rfl rfl rfl hlen hsz ?_)
              intro v' w2 hown2 hg2 hat2
              have hB2 := below_of_own hB hg2 hsz (fun g hg => (hown.lt g hg).1)
              clear hown hg2 hat2
              go_wp2_with fail
              go_roundw
              case rel => exact ⟨j + 1, by omega, by go_num, by rw [HS.out]; exact hown2, hB2⟩
              case measure => simp [intOf]; omega
            · have f1 : (f[j] == (k : Int) + 1) = false := by simpa using he
              have HE : Hid (¬ f[j] = ((k + 1 : Nat) : Int)) := by show ¬ _; omega
              clear he
              have HS := Lib.hid (show ppL f k ++ usL f (k + 1) (j + 1) = ppL f k ++ usL f (k + 1) j by rw [HU.out, if_neg HE.out, List.append_nil])
              go_wp2_with fail
              go_roundw
              case rel => exact ⟨j + 1, by omega, by go_num, by rw [HS.out]; exact hown, hB⟩
              case measure => simp [intOf]; omega
          · have HS := Lib.hid (show ppL f (k + 1) = ppL f k ++ (usL f (k + 1) j ++ [100]) by rw [ppL_succ, show j = f.length from by omega])
            have hlen : (ppL f k ++ usL f (k + 1) j).length < 1099511627776 := by rw [List.length_append]; have := usL_len f (k + 1) j; omega
            go_wp2_with (at_builtin; refine wpList_appB _ rfl _ _ rfl w.heap.size _ _ rfl hown 100 _ rfl rfl rfl hlen hsz ?_)
            intro v' w2 hown2 hg2 hat2
            have hB2 := below_of_own hB hg2 hsz (fun g hg => (hown.lt g hg).1)
            clear hown hg2 hat2
            go_wp2_with fail
            go_roundw
            case rel => exact ⟨k + 1, by omega, by go_num, by rw [HS.out]; exact hown2, hB2⟩
            case measure => simp [intOf]; omega
      · have hke : k = f.length := by omega
        have hlt' : ¬ (k : Int) + 1 ≤ (f.length : Int) := by omega
        have kc := conv_row hown
        go_wp2_with fail
        go_ret2
        subst hke
        exact RetSB.mk HV.out rfl hB
  | false =>
    have HV := Lib.hid (show ppR f = ([], false) by unfold ppR; rw [if_neg (by rw [hp]; simp)])
    go_enter Try.func128, Try.ntmps128
    go_wp2_with fail
    refine (implIsParking_any _ _ _ hv0).mono ?_; rintro e w1 ⟨rfl, b1⟩
    rw [hp]
    go_wp2_with fail
    go_ret2
    exact RetSB.mk HV.out rfl b1
end Go.Proofs.Ytnkkgfeegaiakaa
