/- Contracts of the laws' helpers on slices of numbers: copying, comparing, marking, and looking at marks. No condition. -/
import Derived.Test.YtkfhcljiifpckaaBase
namespace Go.Proofs.Ytkfhcljiifpckaa
open Go.RowKit
theorem toIntS_any (a : Value) (xs : List Int) (w : World) (ha : RdI w a xs) :
    Calls Try.prog 18 #[a] w fun e w' => ∃ v, e = .returned v ∧ OwI w' w.heap.size v xs ∧ Below w.heap.size w w' := by
  obtain ⟨i0, hi, hz0, hz1, hz2⟩ := info_parts info_int
  obtain ⟨A, c, rfl, hc, hl, hA⟩ := ha
  go_enter Try.func18, Try.ntmps18
  go_wp2_with (at_make; refine wpList_make_full _ rfl _ _ 24 rfl w.heap.size 3 i0 (.int .i64 0) 1 Try.underlying24 hi hz0 hz1 _ _ _ _ xs.length rfl rfl rfl rfl ?b2 ?b3 ?b4 ?_)
  case b2 => rw [hz2]; omega
  case b3 => unfold maxLen; omega
  case b4 => exact Nat.le_refl _
  intro w1 hown hgrow
  go_wp2
  rw [toList_madeCells_one] at hown
  have hB : Below w.heap.size w w1 := (Below.refl _ _).grown hgrow (Nat.le_refl _) (by simp)
  go_loopw [4] (fun i wr => ∃ k : Nat, k ≤ xs.length ∧ i = .int .i64 k ∧ wr.ownsRow w.heap.size 3 1 (.slice (some ⟨w.heap.size, 0, none⟩) xs.length xs.length) xs.length ((xs.take k ++ List.replicate (xs.length - k) 0).map (Value.int .i64)) ∧ Below w.heap.size w wr) (fun i _ => xs.length - (intOf i).toNat)
  case atStart => exact ⟨0, by omega, rfl, by simpa using hown, hB⟩
  case round =>
    clear hown hgrow hB
    obtain ⟨k, hk, rfl, hown, hB⟩ := hrel
    by_cases hlt : k < xs.length
    · obtain ⟨b, o, rfl, hb, hcl⟩ := hA (by omega)
      have c1 := (hB.cell (p := ⟨b, o + k, none⟩) hb).trans (hcl k hlt)
      have c2 := hown.cellAt k (by omega)
      have c3 := hown.frozenAt k
      clear hcl
      go_wp2_with fail
      go_roundw
      case rel =>
        refine ⟨k + 1, by omega, by go_num, ?_, hB.setCell (Nat.le_refl _) _⟩
        have e : (xs.take (k + 1) ++ List.replicate (xs.length - (k + 1)) 0).map (Value.int .i64) = ((xs.take k ++ List.replicate (xs.length - k) 0).map (Value.int .i64)).set k (.int .i64 xs[k]) := by
          exact fill_set _ _ _ _ hlt
        rw [e]
        exact (hown.stored k _).1
      case measure => simp [intOf]; omega
    · have hke : k = xs.length := by omega
      go_wp2_with fail
      go_ret
      refine ⟨_, rfl, ⟨?_, hl⟩, hB⟩
      subst hke
      simpa using hown
theorem eqIntS_any (a b : Value) (xs ys : List Int) (w : World) (ha : RdI w a xs) (hb : RdI w b ys) :
    Calls Try.prog 20 #[a, b] w fun e w' => e = .returned (.bool (decide (xs = ys))) ∧ ∃ q, w' = w.drewN q := by
  obtain ⟨A, c, rfl, hc, hl, hA⟩ := ha
  obtain ⟨B, d, rfl, hd, hm, hB⟩ := hb
  by_cases hn : xs.length = ys.length
  · have HN := Lib.hid hn
    clear hn
    have hbn : ((xs.length : Int) != (ys.length : Int)) = false := by rw [HN.out]; simp
    go_enter Try.func20, Try.ntmps20
    go_wp2_with fail
    go_loopw [5] (fun i wr => ∃ k : Nat, k ≤ xs.length ∧ i = .int .i64 k ∧ xs.take k = ys.take k ∧ ∃ q, wr = w.drewN q) (fun i _ => xs.length - (intOf i).toNat)
    case atStart => exact ⟨0, by omega, rfl, rfl, 0, rfl⟩
    case round =>
      obtain ⟨k, hk, rfl, ht, q, rfl⟩ := hrel
      have HT := Lib.hid ht
      clear ht
      by_cases hlt : k < xs.length
      · obtain ⟨b1, o1, rfl, _, h1⟩ := hA (by omega)
        obtain ⟨b2, o2, rfl, _, h2⟩ := hB (by have := HN.out; omega)
        have hlt2 : k < ys.length := by have := HN.out; omega
        have c1 := h1 k hlt
        have c2 := h2 k hlt2
        clear h1 h2 hA hB
        go_wp2_with fail
        go_quiet (fail)
        go_wp2_with fail
        · have hne : (xs[k] != ys[k]) = true := by assumption
          go_ret
          refine ⟨ret_bool ?_, q + _, (drewN_two _ _ _)⟩
          have : xs ≠ ys := fun e => by subst e; simp at hne
          simp [this]
        · have hne : (xs[k] != ys[k]) = false := by assumption
          go_roundw
          case rel => exact ⟨k + 1, by omega, by go_num, by rw [take_succ_get _ _ hlt, take_succ_get _ _ hlt2, HT.out, show xs[k] = ys[k] by simpa using hne], _, rfl⟩
          case measure => simp [intOf]; omega
      · go_wp2_with fail
        go_ret
        refine ⟨ret_bool ?_, q, rfl⟩
        have h1 := HT.out
        rw [List.take_of_length_le (by omega), List.take_of_length_le (by have := HN.out; omega)] at h1
        simp [h1]
  · have hbn : ((xs.length : Int) != (ys.length : Int)) = true := by simp; omega
    have H := Lib.hid hn
    clear hn
    go_enter Try.func20, Try.ntmps20
    go_wp2_with fail
    go_ret
    refine ⟨ret_bool ?_, 0, rfl⟩
    have : xs ≠ ys := fun e => H.out (by rw [e])
    simp [this]
end Go.Proofs.Ytkfhcljiifpckaa
