/- Contracts of the laws' marks on slices of slices of numbers: marked in order, and looked at. No condition but the sizes. -/
import Derived.Test.YtnkkgfeegaiakaaGround
namespace Go.Proofs.Ytnkkgfeegaiakaa
open Go.RowKit
def off (xss : List (List Int)) (i : Nat) : Nat := sumTo i (fun j => (rowOf xss j).length)
theorem off_zero (xss : List (List Int)) : off xss 0 = 0 := rfl
theorem off_succ (xss : List (List Int)) (i : Nat) : off xss (i + 1) = off xss i + (rowOf xss i).length := sumTo_succ _ _
theorem off_mono (xss : List (List Int)) {i j : Nat} (h : i ≤ j) : off xss i ≤ off xss j := by
  induction j with
  | zero => rw [show i = 0 from by omega]; exact Nat.le_refl _
  | succ j ih =>
    rcases Nat.lt_or_ge i (j + 1) with h1 | h1
    · rw [off_succ]; have := ih (by omega); omega
    · rw [show i = j + 1 from by omega]; exact Nat.le_refl _
/-- the first j rows marked -/
def mkTo (xss : List (List Int)) (k0 j : Nat) : List (List Int) := (List.range xss.length).map fun i => if i < j then marks ((k0 + off xss i : Nat) : Int) (rowOf xss i).length else rowOf xss i
theorem mkTo_len (xss : List (List Int)) (k0 j : Nat) : (mkTo xss k0 j).length = xss.length := by simp [mkTo]
theorem mkTo_row {xss : List (List Int)} (k0 j : Nat) {i : Nat} (h : i < xss.length) : rowOf (mkTo xss k0 j) i = if i < j then marks ((k0 + off xss i : Nat) : Int) (rowOf xss i).length else rowOf xss i := by
  rw [rowOf_get (by rw [mkTo_len]; exact h)]
  simp [mkTo]
theorem mkTo_zero (xss : List (List Int)) (k0 : Nat) : mkTo xss k0 0 = xss := by
  apply List.ext_getElem
  · exact mkTo_len _ _ _
  · intro i h1 h2
    simp [mkTo, rowOf_get h2]
theorem mkTo_set {xss : List (List Int)} (k0 : Nat) {j : Nat} (_h : j < xss.length) : (mkTo xss k0 j).set j (marks ((k0 + off xss j : Nat) : Int) (rowOf xss j).length) = mkTo xss k0 (j + 1) := by
  apply List.ext_getElem
  · simp [mkTo]
  · intro i h1 h2
    rw [List.getElem_set]
    by_cases e : j = i
    · subst e
      rw [if_pos rfl]
      simp only [mkTo, List.getElem_map, List.getElem_range]
      rw [if_pos (by omega)]
    · rw [if_neg e]
      simp only [mkTo, List.getElem_map, List.getElem_range]
      by_cases h3 : i < j
      · rw [if_pos h3, if_pos (by omega)]
      · rw [if_neg h3, if_neg (by omega)]
/-- a row written in its place -/
theorem OwSS.row_at {w : World} {base top g n c : Nat} {xss : List (List Int)} (h : OwSS w base top (.slice (some ⟨g, 0, none⟩) n c) xss) {j : Nat} (hj : j < xss.length) :
    ∃ u, w.cell? ⟨g, j, none⟩ = some u ∧ OwI w base u (rowOf xss j) ∧
      ∀ w' ys, OwI w' base u ys → w.grownBy w' u.ownBlock → OwSS w' base top (.slice (some ⟨g, 0, none⟩) n c) (xss.set j ys) ∧ Turned base top w w' := by
  obtain ⟨V, ho, hr, hap, ht1, ht2⟩ := h
  have hjl : j < ((List.range xss.length).map V).length := by simpa using hj
  have hcell := ho.cellAt j hjl
  simp only [List.getElem_map, List.getElem_range, id] at hcell
  refine ⟨V j, hcell, hr j hj, fun w' ys hu' hg => ⟨?_, ?_⟩⟩
  · have hvo : Apart (V j) (.slice (some ⟨g, 0, none⟩) n c) := OwR.apart_of_type (e := 3) (e' := 38) (hr j hj) ho (by decide)
    refine ⟨V, by rw [List.length_set]; exact OwR.other ho hg hvo.symm, fun i hi => ?_, fun i k hik hk => by rw [List.length_set] at hk; exact hap i k hik hk, ht1, fun i hi => by rw [List.length_set] at hi; exact ht2 i hi⟩
    rw [List.length_set] at hi
    by_cases e : i = j
    · subst e
      rw [rowOf_set_eq hj]; exact hu'
    · rw [rowOf_set_ne e]
      have h1 : Apart (V i) (V j) := by
        rcases Nat.lt_or_ge i j with h | h
        · exact hap i j h hj
        · exact (hap j i (by omega) hi).symm
      exact OwR.other (hr i hi) hg h1
  · exact Turned.of_row hg fun b hb => ⟨((hr j hj).lt b hb).1, ht2 j hj b hb⟩
theorem markIntSS_any (v : Value) (xss : List (List Int)) (k0 : Nat) (w : World) (base top : Nat) (hv : OwSS w base top v xss) (hk0 : k0 + off xss xss.length ≤ 1099511627776) :
    Calls Try.prog 15 #[v, .int .i64 (k0 : Int)] w fun e w' => e = .returned (.int .i64 ((k0 + off xss xss.length : Nat) : Int)) ∧ OwSS w' base top v (mkTo xss k0 xss.length) ∧ Turned base top w w' := by
  obtain ⟨A, c, rfl⟩ := hv.shape
  have hl := hv.len
  go_enter Try.func15, Try.ntmps15
  go_wp2_with fail
  go_loopw [1, 5] (fun q i wr => ∃ k t : Nat, k ≤ xss.length ∧ i = .int .i64 k ∧ q = .int .i64 (t : Int) ∧ Hid (t = k0 + off xss k) ∧ OwSS wr base top (.slice A xss.length c) (mkTo xss k0 k) ∧ Turned base top w wr) (fun _ i _ => xss.length - (intOf i).toNat)
  case atStart => exact ⟨0, k0, by omega, rfl, rfl, by show k0 = _; rw [off_zero]; rfl, by rw [mkTo_zero]; exact hv, Turned.refl _ _ _⟩
  case round =>
    clear hv
    obtain ⟨k, t, hk, rfl, rfl, HT, hown, hT⟩ := hrel
    by_cases hlt : k < xss.length
    · have hml := mkTo_len xss k0 k
      obtain ⟨g, rfl, _, _⟩ := hown.at_ (by omega)
      obtain ⟨u, d0, hu, hku⟩ := hown.row_at (j := k) (by omega)
      rw [mkTo_row k0 k hlt, if_neg (Nat.lt_irrefl _)] at hu
      have ht : t ≤ 1099511627776 := by
        have := HT.out
        have := off_mono xss (show k ≤ xss.length from hk)
        omega
      have HSS := Lib.hid (show t + (rowOf xss k).length = k0 + off xss (k + 1) by rw [off_succ, HT.out]; omega)
      have HSET := Lib.hid (mkTo_set k0 hlt)
      rw [← HT.out] at HSET
      have hb : k0 + off xss (k + 1) ≤ 1099511627776 := by
        have := off_mono xss (show k + 1 ≤ xss.length from hlt)
        omega
      have hb2 : t + (rowOf xss k).length ≤ 1099511627776 := by rw [HSS.out]; exact hb
      clear hb hml
      go_wp2_with fail
      refine (markIntS_any _ _ t _ base hu ht).mono ?_; rintro e w2 ⟨rfl, hu2, hg2⟩
      obtain ⟨hown2, hT2⟩ := hku w2 _ hu2 hg2
      rw [HSET.out] at hown2
      generalize (rowOf xss k).length = L at *
      go_wp2_with fail
      go_roundw
      case rel => exact ⟨k + 1, t + L, by omega, by go_num, rfl, HSS.out, hown2, hT.trans hT2⟩
      case measure => simp [intOf]; omega
    · have hke : k = xss.length := by omega
      subst hke
      have HT2 := HT.out
      go_wp2_with fail
      go_ret
      exact ⟨ret_int (by rw [HT2]), hown, hT⟩
theorem heldIntSS_any (v : Value) (xss : List (List Int)) (k0 : Nat) (w : World) (hv : RdSS w v (mkTo xss k0 xss.length)) (hk0 : k0 + off xss xss.length ≤ 1099511627776) :
    Calls Try.prog 16 #[v, .int .i64 (k0 : Int)] w fun e w' => e = .returned (.int .i64 ((k0 + off xss xss.length : Nat) : Int)) ∧ ∃ q, w' = w.drewN q := by
  obtain ⟨A, c, rfl, hc, hl, hA⟩ := hv
  rw [mkTo_len] at hc hl
  have hml := mkTo_len xss k0 xss.length
  rw [hml]
  go_enter Try.func16, Try.ntmps16
  go_wp2_with fail
  go_loopw [1, 5] (fun q i wr => ∃ k t : Nat, k ≤ xss.length ∧ i = .int .i64 k ∧ q = .int .i64 (t : Int) ∧ Hid (t = k0 + off xss k) ∧ ∃ n, wr = w.drewN n) (fun _ i _ => xss.length - (intOf i).toNat)
  case atStart => exact ⟨0, k0, by omega, rfl, rfl, by show k0 = _; rw [off_zero]; rfl, 0, rfl⟩
  case round =>
    obtain ⟨k, t, hk, rfl, rfl, HT, n, rfl⟩ := hrel
    by_cases hlt : k < xss.length
    · obtain ⟨b, o, rfl, _, hcl⟩ := hA (by omega)
      obtain ⟨u, d0, hu⟩ := hcl k (by omega)
      rw [← rowOf_get (by omega), mkTo_row k0 _ hlt, if_pos hlt, ← HT.out] at hu
      clear hcl hA hml
      have ht : t ≤ 1099511627776 := by
        have := HT.out
        have := off_mono xss (show k ≤ xss.length from hk)
        omega
      have HSS := Lib.hid (show t + (rowOf xss k).length = k0 + off xss (k + 1) by rw [off_succ, HT.out]; omega)
      have hb2 : t + (rowOf xss k).length ≤ 1099511627776 := by
        rw [HSS.out]
        have := off_mono xss (show k + 1 ≤ xss.length from hlt)
        omega
      generalize (rowOf xss k).length = L at *
      have hng : ¬ ((t + L : Nat) : Int) < 0 := by omega
      go_wp2_with fail
      refine (heldIntS_any _ _ t _ (hu.drewN n) ht).mono ?_; rintro e w2 ⟨rfl, m, rfl⟩
      go_wp2_with fail
      go_roundw
      case rel => exact ⟨k + 1, t + L, by omega, by go_num, rfl, HSS.out, _, rfl⟩
      case measure => simp [intOf]; omega
    · have hke : k = xss.length := by omega
      subst hke
      have HT2 := HT.out
      go_wp2_with fail
      go_ret
      exact ⟨ret_int (by rw [HT2]), n, rfl⟩
end Go.Proofs.Ytnkkgfeegaiakaa
