/- Contracts of the laws' helpers on slices of numbers: copying, comparing, marking, and looking at marks. No condition. -/
import Derived.Test.YtnkkgfeegaiakaaBase
namespace Go.Proofs.Ytnkkgfeegaiakaa
open Go.RowKit
theorem toIntS_any (a : Value) (xs : List Int) (w : World) (ha : RdI w a xs) :
    Calls Try.prog 173 #[a] w fun e w' => ∃ v, e = .returned v ∧ OwI w' w.heap.size v xs ∧ Below w.heap.size w w' := by
  obtain ⟨i0, hi, hz0, hz1, hz2⟩ := info_parts info_int
  obtain ⟨A, c, rfl, hc, hl, hA⟩ := ha
  go_enter Try.func173, Try.ntmps173
  go_wp2_with (at_make; refine wpList_make_full _ rfl _ _ 38 rfl w.heap.size 3 i0 (.int .i64 0) 1 Try.underlying38 hi hz0 hz1 _ _ _ _ xs.length rfl rfl rfl rfl ?b2 ?b3 ?b4 ?_)
  case b2 => rw [hz2]; omega
  case b3 => unfold maxLen; omega
  case b4 => exact Nat.le_refl _
  intro w1 hown hgrow
  go_wp2
  rw [toList_madeCells_one] at hown
  have hB : Below w.heap.size w w1 := (Below.refl _ _).grown hgrow (Nat.le_refl _) (by simp)
  go_loopw [4] (fun i wr => ∃ k : Nat, k ≤ xs.length ∧ i = .int .i64 k ∧ wr.ownsRow w.heap.size 3 1 (.slice (some ⟨w.heap.size, 0, none⟩) xs.length xs.length) xs.length ((xs.take k ++ List.replicate (xs.length - k) 0).map (Value.int .i64)) ∧ Below w.heap.size w wr) (fun i _ => xs.length - (intOf i).toNat)
  case atStart => exact ⟨0, by omega, rfl, by simpa using hown, hB⟩
  case round =>
    clear hown hgrow hB
    obtain ⟨k, hk, rfl, hown, hB⟩ := hrel
    by_cases hlt : k < xs.length
    · obtain ⟨b, o, rfl, hb, hcl⟩ := hA (by omega)
      have c1 := (hB.cell (p := ⟨b, o + k, none⟩) hb).trans (hcl k hlt)
      have c2 := hown.cellAt k (by omega)
      have c3 := hown.frozenAt k
      clear hcl
      go_wp2_with fail
      go_roundw
      case rel =>
        refine ⟨k + 1, by omega, by go_num, ?_, hB.setCell (Nat.le_refl _) _⟩
        have e : (xs.take (k + 1) ++ List.replicate (xs.length - (k + 1)) 0).map (Value.int .i64) = ((xs.take k ++ List.replicate (xs.length - k) 0).map (Value.int .i64)).set k (.int .i64 xs[k]) := by
          exact fill_set _ _ _ _ hlt
        rw [e]
        exact (hown.stored k _).1
      case measure => simp [intOf]; omega
    · have hke : k = xs.length := by omega
      go_wp2_with fail
      go_ret
      refine ⟨_, rfl, ⟨?_, hl⟩, hB⟩
      subst hke
      simpa using hown
theorem eqIntS_any (a b : Value) (xs ys : List Int) (w : World) (ha : RdI w a xs) (hb : RdI w b ys) :
    Calls Try.prog 167 #[a, b] w fun e w' => e = .returned (.bool (decide (xs = ys))) ∧ ∃ q, w' = w.drewN q := by
  obtain ⟨A, c, rfl, hc, hl, hA⟩ := ha
  obtain ⟨B, d, rfl, hd, hm, hB⟩ := hb
  by_cases hn : xs.length = ys.length
  · have HN := Lib.hid hn
    clear hn
    have hbn : ((xs.length : Int) != (ys.length : Int)) = false := by rw [HN.out]; simp
    go_enter Try.func167, Try.ntmps167
    go_wp2_with fail
    go_loopw [5] (fun i wr => ∃ k : Nat, k ≤ xs.length ∧ i = .int .i64 k ∧ xs.take k = ys.take k ∧ ∃ q, wr = w.drewN q) (fun i _ => xs.length - (intOf i).toNat)
    case atStart => exact ⟨0, by omega, rfl, rfl, 0, rfl⟩
    case round =>
      obtain ⟨k, hk, rfl, ht, q, rfl⟩ := hrel
      have HT := Lib.hid ht
      clear ht
      by_cases hlt : k < xs.length
      · obtain ⟨b1, o1, rfl, _, h1⟩ := hA (by omega)
        obtain ⟨b2, o2, rfl, _, h2⟩ := hB (by have := HN.out; omega)
        have hlt2 : k < ys.length := by have := HN.out; omega
        have c1 := h1 k hlt
        have c2 := h2 k hlt2
        clear h1 h2 hA hB
        go_wp2_with fail
        go_quiet (fail)
        go_wp2_with fail
        · have hne : (xs[k] != ys[k]) = true := by assumption
          go_ret
          refine ⟨ret_bool ?_, q + _, (drewN_two _ _ _)⟩
          have : xs ≠ ys := fun e => by subst e; simp at hne
          simp [this]
        · have hne : (xs[k] != ys[k]) = false := by assumption
          go_roundw
          case rel => exact ⟨k + 1, by omega, by go_num, by rw [take_succ_get _ _ hlt, take_succ_get _ _ hlt2, HT.out, show xs[k] = ys[k] by simpa using hne], _, rfl⟩
          case measure => simp [intOf]; omega
      · go_wp2_with fail
        go_ret
        refine ⟨ret_bool ?_, q, rfl⟩
        have h1 := HT.out
        rw [List.take_of_length_le (by omega), List.take_of_length_le (by have := HN.out; omega)] at h1
        simp [h1]
  · have hbn : ((xs.length : Int) != (ys.length : Int)) = true := by simp; omega
    have H := Lib.hid hn
    clear hn
    go_enter Try.func167, Try.ntmps167
    go_wp2_with fail
    go_ret
    refine ⟨ret_bool ?_, 0, rfl⟩
    have : xs ≠ ys := fun e => H.out (by rw [e])
    simp [this]
theorem markIntS_any (v : Value) (xs : List Int) (k0 : Nat) (w : World) (base : Nat) (hv : OwI w base v xs) (hk0 : k0 ≤ 1099511627776) :
    Calls Try.prog 168 #[v, .int .i64 (k0 : Int)] w fun e w' => e = .returned (.int .i64 ((k0 + xs.length : Nat) : Int)) ∧ OwI w' base v (marks k0 xs.length) ∧ w.grownBy w' v.ownBlock := by
  have hl := hv.2
  rcases hv.shape with ⟨rfl, rfl⟩ | ⟨g, cap, rfl, hg, hgs⟩
  · go_enter Try.func168, Try.ntmps168
    go_wp2_with fail
    refine wp_loop_rounds 1 ?_
    rw [rounds_succ]
    go_wp2_with fail
    go_ret
    exact ⟨rfl, hv, World.grownBy.refl _ _⟩
  · go_enter Try.func168, Try.ntmps168
    go_wp2_with fail
    go_loopw [1, 5] (fun q i wr => ∃ k : Nat, k ≤ xs.length ∧ i = .int .i64 k ∧ q = .int .i64 ((k0 : Int) + (k : Int)) ∧ wr.ownsRow base 3 1 (.slice (some ⟨g, 0, none⟩) xs.length cap) xs.length ((marks k0 k ++ xs.drop k).map (Value.int .i64)) ∧ w.grownBy wr (some g)) (fun _ i _ => xs.length - (intOf i).toNat)
    case atStart => exact ⟨0, by omega, rfl, by simp, by simpa [marks] using hv.1, World.grownBy.refl _ _⟩
    case round =>
      obtain ⟨k, hk, rfl, rfl, hown, hG⟩ := hrel
      by_cases hlt : k < xs.length
      · have c2 := hown.cellAt k (by omega)
        have c3 := hown.frozenAt k
        have c2' : wr.cell? ⟨g, k, none⟩ = some (.int .i64 xs[k]) := by
          rw [c2]
          exact get_mid _ _ _ _ (marks_len k0 k) hlt
        clear c2
        go_wp2_with fail
        go_roundw
        case rel =>
          refine ⟨k + 1, by omega, by go_num, by go_num, ?_, ?_⟩
          · have e : (marks k0 (k + 1) ++ xs.drop (k + 1)).map (Value.int .i64) = ((marks k0 k ++ xs.drop k).map (Value.int .i64)).set k (.int .i64 ((k0 : Int) + (k : Int))) := by
              exact mark_set _ _ _ _ hlt
            rw [e]
            exact (hown.stored k _).1
          · have := (hown.stored k (.int .i64 ((k0 : Int) + (k : Int)))).2
            exact ⟨this.os.trans hG.os, this.tape.trans hG.tape, this.output.trans hG.output, Nat.le_trans hG.size this.size, fun j hj hne => (this.block j (Nat.lt_of_lt_of_le hj hG.size) hne).trans (hG.block j hj hne)⟩
        case measure => simp [intOf]; omega
      · have hke : k = xs.length := by omega
        go_wp2_with fail
        go_ret
        subst hke
        refine ⟨ret_int (by omega), ⟨?_, by simpa [marks] using hl⟩, hG⟩
        simpa [marks_len] using hown
theorem heldIntS_any (v : Value) (n : Nat) (k0 : Nat) (w : World) (hv : RdI w v (marks k0 n)) (hk0 : k0 ≤ 1099511627776) :
    Calls Try.prog 169 #[v, .int .i64 (k0 : Int)] w fun e w' => e = .returned (.int .i64 ((k0 + n : Nat) : Int)) ∧ ∃ q, w' = w.drewN q := by
  obtain ⟨A, c, rfl, hc, hl, hA⟩ := hv
  rw [marks_len] at *
  go_enter Try.func169, Try.ntmps169
  go_wp2_with fail
  go_loopw [1, 5] (fun q i wr => ∃ k : Nat, k ≤ n ∧ i = .int .i64 k ∧ q = .int .i64 ((k0 : Int) + (k : Int)) ∧ ∃ j, wr = w.drewN j) (fun _ i _ => n - (intOf i).toNat)
  case atStart => exact ⟨0, by omega, rfl, by simp, 0, rfl⟩
  case round =>
    obtain ⟨k, hk, rfl, rfl, j, rfl⟩ := hrel
    by_cases hlt : k < n
    · obtain ⟨b, o, rfl, _, hcl⟩ := hA (by rw [marks_len]; omega)
      have c1 := hcl k (by rw [marks_len]; exact hlt)
      simp only [marks, List.getElem_map, List.getElem_range] at c1
      clear hcl
      go_wp2_with fail
      go_roundw
      case rel => exact ⟨k + 1, by omega, by go_num, by go_num, _, rfl⟩
      case measure => simp [intOf]; omega
    · have hke : k = n := by omega
      go_wp2_with fail
      go_ret
      subst hke
      exact ⟨ret_int (by omega), j, rfl⟩
end Go.Proofs.Ytnkkgfeegaiakaa
