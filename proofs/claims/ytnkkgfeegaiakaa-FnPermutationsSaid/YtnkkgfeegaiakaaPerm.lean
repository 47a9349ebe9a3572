/- Contracts of IsPermutation, the program's and the reference's: both return whether the numbers are a permutation. No condition. -/
import Derived.Test.YtnkkgfeegaiakaaNum
namespace Go.Proofs.Ytnkkgfeegaiakaa
open Go.RowKit
theorem specIsPermutation_any (v : Value) (p : List Int) (w : World) (hv : RdI w v p) :
    Calls Try.prog 77 #[v] w fun e w' => e = .returned (.bool (decide (PermP p))) ∧ ∃ q, w' = w.drewN q := by
  obtain ⟨A, c, rfl, hc, hl, hA⟩ := hv
  go_enter Try.func77, Try.ntmps77
  go_wp2_with fail
  go_loopw [3] (fun i wr => ∃ k : Nat, k ≤ p.length ∧ i = .int .i64 k ∧ Hid (∀ j, j < k → PermOk p j) ∧ ∃ q, wr = w.drewN q) (fun i _ => p.length - (intOf i).toNat)
  case atStart => exact ⟨0, by omega, rfl, fun j hj => absurd hj (by omega), 0, rfl⟩
  case round =>
    obtain ⟨k, hk, rfl, HO, q, rfl⟩ := hrel
    by_cases hlt : k < p.length
    · obtain ⟨b, o, rfl, _, hcl⟩ := hA (by omega)
      have c1 := hcl k hlt
      by_cases hin : 0 ≤ p[k] ∧ p[k] ≤ (p.length : Int) - 1
      · obtain ⟨h0, h1⟩ := hin
        have HC := Lib.hid hcl
        clear hcl hA
        go_wp2_with (go_at_call 185; refine (l1In_yes _ _ _ _ (by omega) (by omega)).mono ?_; rintro e w' ⟨rfl, rfl⟩)
        go_loopw [4] (fun i wr => ∃ j : Nat, j ≤ k ∧ i = .int .i64 j ∧ Hid (∀ j', j' < j → p.getD j' 0 ≠ p.getD k 0) ∧ ∃ q, wr = w.drewN q) (fun i _ => k - (intOf i).toNat)
        case atStart => exact ⟨0, by omega, rfl, fun j hj => absurd hj (by omega), q, rfl⟩
        case round =>
          obtain ⟨j, hj, rfl, HJ, q2, rfl⟩ := hrel
          by_cases hjk : j < k
          · have c2 := HC.out j (by omega)
            by_cases heq : p[j] = p[k]
            · have hs : (p[j] == p[k]) = true := by simpa using heq
              have HE := Lib.hid heq
              clear heq
              go_wp2_with fail
              go_quiet (fail)
              go_wp2_with fail
              go_ret
              refine ⟨ret_bool ?_, _, drewN_two _ _ _⟩
              have : ¬ PermP p := PermP.not_at hlt (fun h => h.2.2 j hjk (by rw [getD_of hlt, getD_of (by omega)]; exact HE.out))
              simp [this]
            · have hs : (p[j] == p[k]) = false := by simpa using heq
              have HE := Lib.hid heq
              clear heq
              go_wp2_with fail
              go_quiet (fail)
              go_wp2_with fail
              go_roundw
              case rel =>
                refine ⟨j + 1, by omega, by go_num, fun j' hj' => ?_, _, rfl⟩
                rcases Nat.lt_or_ge j' j with h | h
                · exact HJ.out j' h
                · obtain rfl : j' = j := by omega
                  rw [getD_of hlt, getD_of (by omega)]; exact HE.out
              case measure => simp [intOf]; omega
          · go_wp2_with fail
            go_roundw
            case rel =>
              refine ⟨k + 1, by omega, by go_num, fun j' hj' => ?_, _, rfl⟩
              rcases Nat.lt_or_ge j' k with h | h
              · exact HO.out j' h
              · obtain rfl : j' = k := by omega
                exact ⟨by rw [getD_of hlt]; exact h0, by rw [getD_of hlt]; omega, fun i hi => HJ.out i (by omega)⟩
            case measure => simp [intOf]; omega
      · clear hcl hA
        go_wp2_with (go_at_call 185; refine (l1In_no _ _ _ _ hin).mono ?_; rintro e w' ⟨rfl, rfl⟩)
        go_ret
        refine ⟨ret_bool ?_, q, rfl⟩
        have : ¬ PermP p := PermP.not_at hlt (fun h => hin (by obtain ⟨h0, h1, _⟩ := h; rw [getD_of hlt] at h0 h1; exact ⟨h0, by omega⟩))
        simp [this]
    · have e : PermP p ↔ p.length ≤ 8 := ⟨fun h => h.1, fun h => ⟨h, fun j hj => HO.out j (by omega)⟩⟩
      have H := Lib.hid e
      clear e
      go_wp2_with fail
      go_ret
      exact ⟨ret_bool (by simp [H.out]; omega), q, rfl⟩
theorem info_bool : (Try.prog.info? 4).map (fun i => (i.zero, i.size, i.bytes)) = some (some (.bool false), 1, 1) := by kernel_rfl
set_option maxRecDepth 8000 in
theorem implIsPermutation_any (v : Value) (p : List Int) (w : World) (hv : RdI w v p) :
    Calls Try.prog 76 #[v] w fun e w' => e = .returned (.bool (decide (PermP p))) ∧ Below w.heap.size w w' := by
  obtain ⟨i0, hi, hz0, hz1, hz2⟩ := info_parts info_bool
  obtain ⟨A, c, rfl, hc, hl, hA⟩ := hv
  by_cases h8 : p.length ≤ 8
  · go_enter Try.func76, Try.ntmps76
    go_wp2_with (at_make; refine wpList_make_full _ rfl _ _ 91 rfl w.heap.size 4 i0 (.bool false) 1 Try.underlying91 hi hz0 hz1 _ _ _ _ p.length rfl rfl rfl rfl ?b2 ?b3 ?b4 ?_)
    case b2 => rw [hz2]; omega
    case b3 => unfold maxLen; omega
    case b4 => exact Nat.le_refl _
    intro w1 hown hgrow
    go_wp2
    rw [toList_madeCells_one] at hown
    have hB : Below w.heap.size w w1 := (Below.refl _ _).grown hgrow (Nat.le_refl _) (by simp)
    go_loopw [14] (fun i wr => ∃ k : Nat, k ≤ p.length ∧ i = .int .i64 k ∧ Hid (∀ j, j < k → PermOk p j) ∧ wr.ownsRow w.heap.size 4 1 (.slice (some ⟨w.heap.size, 0, none⟩) p.length p.length) p.length ((seenL p p.length k).map Value.bool) ∧ Below w.heap.size w wr) (fun i _ => p.length - (intOf i).toNat)
    case atStart => exact ⟨0, by omega, rfl, fun j hj => absurd hj (by omega), by rw [seenL_zero]; simpa using hown, hB⟩
    case round =>
      clear hown hgrow hB
      obtain ⟨k, hk, rfl, HO, hown, hB⟩ := hrel
      by_cases hlt : k < p.length
      · obtain ⟨b, o, rfl, hb, hcl⟩ := hA (by omega)
        have c1 := (hB.cell (p := ⟨b, o + k, none⟩) hb).trans (hcl k hlt)
        clear hcl hA
        by_cases hin : 0 ≤ p[k] ∧ p[k] ≤ (p.length : Int) - 1
        · obtain ⟨h0, h1⟩ := hin
          have c2 : wr.cell? ⟨w.heap.size, p[k].toNat, none⟩ = some (.bool ((p.take k).contains p[k])) := by
            rw [hown.cellAt _ (by omega)]
            have hx : p[k].toNat < (seenL p p.length k).length := by rw [seenL_len]; omega
            rw [List.getElem?_map, List.getElem?_eq_getElem hx, seenL_get, show ((p[k].toNat : Nat) : Int) = p[k] from by omega]
            rfl
          have c3 := hown.frozenAt p[k].toNat
          have HI := Lib.hid (contains_iff p k hk p[k])
          by_cases hs : (p.take k).contains p[k] = true
          · have HS := Lib.hid hs
            rw [hs] at c2
            clear hs
            go_wp2_with (go_at_call 178; refine (within_yes _ _ _ _ (by omega) (by omega)).mono ?_; rintro e w' ⟨rfl, rfl⟩)
            go_ret
            refine ⟨ret_bool ?_, hB⟩
            obtain ⟨j, hj, hj'⟩ := HI.out.1 HS.out
            have : ¬ PermP p := PermP.not_at hlt (fun h => h.2.2 j hj (by rw [hj', getD_of hlt]))
            simp [this]
          · have HS := Lib.hid hs
            have hs' : (p.take k).contains p[k] = false := by simpa using hs
            rw [hs'] at c2
            clear hs hs'
            go_wp2_with (go_at_call 178; refine (within_yes _ _ _ _ (by omega) (by omega)).mono ?_; rintro e w' ⟨rfl, rfl⟩)
            go_roundw
            case rel =>
              refine ⟨k + 1, by omega, by go_num, fun j hj => ?_, ?_, hB.setCell (Nat.le_refl _) _⟩
              · rcases Nat.lt_or_ge j k with h | h
                · exact HO.out j h
                · obtain rfl : j = k := by omega
                  exact ⟨by rw [getD_of hlt]; exact h0, by rw [getD_of hlt]; omega, fun i hi e => HS.out (HI.out.2 ⟨i, hi, by rw [e, getD_of hlt]⟩)⟩
              · rw [seenL_set p p.length k p[k].toNat hlt (by omega), List.map_set]
                exact (hown.stored _ _).1
            case measure => simp [intOf]; omega
        · go_wp2_with (go_at_call 178; refine (within_no _ _ _ _ hin).mono ?_; rintro e w' ⟨rfl, rfl⟩)
          go_ret
          refine ⟨ret_bool ?_, hB⟩
          have : ¬ PermP p := PermP.not_at hlt (fun h => hin (by obtain ⟨h0, h1, _⟩ := h; rw [getD_of hlt] at h0 h1; exact ⟨h0, by omega⟩))
          simp [this]
      · have e : PermP p := ⟨h8, fun j hj => HO.out j (by omega)⟩
        have H := Lib.hid e
        clear e
        go_wp2_with fail
        go_ret
        exact ⟨ret_bool (by simp [H.out]), hB⟩
  · go_enter Try.func76, Try.ntmps76
    go_wp2_with fail
    go_ret
    have : ¬ PermP p := fun h => h8 h.1
    exact ⟨ret_bool (by simp [this]), Below.refl _ _⟩
end Go.Proofs.Ytnkkgfeegaiakaa
