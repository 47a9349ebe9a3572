/- Contracts of MatchingOfPartition, the program's and the reference's: both return the same slice and bool. No condition. -/
import Derived.Test.YtnkkgfeegaiakaaPartCross
import Derived.Test.YtnkkgfeegaiakaaBlocksImpl
import Derived.Test.YtnkkgfeegaiakaaPlain18
namespace Go.Proofs.Ytnkkgfeegaiakaa
open Go.RowKit
set_option maxHeartbeats 2000000 in
theorem specMatchingOfPartition_any (v : Value) (p : List Int) (w : World) (hv : RdI w v p) :
    Calls Try.prog 115 #[v] w (RetIB w (mopR p)) := by
  have hv0 := hv
  have HP0 := specIsNoncrossing_any _ _ _ hv0
  obtain ⟨A, c, rfl, hc, hl, _⟩ := hv
  by_cases hT : NonP p
  · simp only [decide_eq_true hT] at HP0
    have HV := Lib.hid (show mopR p = (mall (List.replicate (2 * p.length) 0) (bks p p.length) (bks p p.length).length, true) by unfold mopR; rw [if_pos hT])
    have h8 : p.length ≤ 8 := hT.1.1
    have HR := Lib.hid (show blocksR p = bks p p.length by unfold blocksR; rw [if_pos hT.1])
    have HI := Lib.hid (bks_rowsIn hT.1)
    clear hT
    go_enter Try.func115, Try.ntmps115
    go_wp2_with fail
    refine HP0.mono ?_; rintro e w' ⟨rfl, q, rfl⟩
    have hw2 : IntKind.i64.wrap (2 * (p.length : Int)) = 2 * (p.length : Int) := IntWalk.i64_in _ (by omega)
    go_wp2_with (at_make; refine wpList_makeI _ rfl _ _ rfl _ _ _ _ (2 * p.length) rfl rfl (by go_num) (by go_num) (by omega) ?_)
    intro w1 own1 b1
    have B1 := below_then (below_draws w q) b1
    have hlt1 : w.heap.size < w1.heap.size ∨ p.length = 0 := by
      rcases Nat.eq_zero_or_pos p.length with h | h
      · exact .inr h
      · exact .inl (own1.lt w.heap.size rfl).2
    clear hw2 b1 HP0
    go_wp2_with fail
    refine (specBlocksOf_any _ _ _ (hv0.below B1)).mono ?_; rintro e w2 ⟨r, rfl, hown, b2⟩
    have B2 := below_then B1 b2
    have own2 := own1.below b2
    rw [HR.out] at hown
    have hs12 := b2.size
    clear own1 b2 HR B1
    have HR0 := Lib.hid (show p.length = 0 → (bks p p.length).length = 0 from fun h => by rw [h]; rfl)
    generalize bks p p.length = R at *
    obtain ⟨rA, rc, rfl⟩ := hown.shape
    have hR8 := HI.out.1
    have HLT1 := Lib.hid hlt1
    clear hlt1
    go_wp2_with fail
    go_loopw [6] (fun i wr => ∃ y : Nat, y ≤ R.length ∧ i = .int .i64 (y : Int) ∧ OwI wr w.heap.size (.slice (some ⟨w.heap.size, 0, none⟩) (2 * p.length) (2 * p.length)) (mall (List.replicate (2 * p.length) 0) R y) ∧ OwSS wr w1.heap.size w2.heap.size (.slice rA R.length rc) R ∧ Below w.heap.size w wr) (fun i _ => R.length - (intOf i).toNat)
    case atStart => exact ⟨0, by omega, rfl, own2, hown, B2⟩
    case round =>
      clear own2 hown B2
      obtain ⟨y, hy, rfl, hx, hown, hB⟩ := hrel
      by_cases hlt : y < R.length
      · have HM := Lib.hid (show mall (List.replicate (2 * p.length) 0) R (y + 1) = mrow (mall (List.replicate (2 * p.length) 0) R y) R[y] R[y].length by rw [mall_succ, getD_of hlt])
        have hml := mall_len (List.replicate (2 * p.length) 0) R y
        rw [List.length_replicate] at hml
        have HML := Lib.hid hml
        clear hml
        obtain ⟨hr8, hel⟩ := HI.out.2 y hlt
        have HEL := Lib.hid hel
        have HRY := Lib.hid (rfl : R[y] = R[y])
        clear hel
        generalize mall (List.replicate (2 * p.length) 0) R y = M0 at *
        generalize hrow : R[y] = row at *
        have HROW := Lib.hid hrow
        clear HRY hrow
        obtain ⟨g, rfl, hg1, hg2⟩ := hown.at_ (by omega)
        have hap : ∀ g, (Value.slice (some ⟨w.heap.size, 0, none⟩) (2 * p.length) (2 * p.length)).ownBlock = some g → g < w1.heap.size ∨ w2.heap.size ≤ g := fun g hg => by
          injection hg with hg; subst hg
          rcases HLT1.out with h | h
          · exact .inl h
          · have := HR0.out h; omega
        have HAP := Lib.hid hap
        clear hap
        have hcR : ∀ wq, OwSS wq w1.heap.size w2.heap.size (.slice (some ⟨g, 0, none⟩) R.length rc) R → ∃ Au cu, wq.cell? ⟨g, y, none⟩ = some (.slice Au row.length cu) ∧ RdI wq (.slice Au row.length cu) row := by
          intro wq h
          obtain ⟨u, hcu, hru, _⟩ := h.row_at hlt
          rw [rowOf_get hlt, HROW.out] at hru
          obtain ⟨Au, cu, rfl, _⟩ := id hru.rd
          exact ⟨Au, cu, hcu, hru.rd⟩
        have HCR := Lib.hid hcR
        clear hcR
        go_wp2_with fail
        go_loopw [7] (fun j wr => ∃ k : Nat, k ≤ row.length ∧ j = .int .i64 (k : Int) ∧ OwI wr w.heap.size (.slice (some ⟨w.heap.size, 0, none⟩) (2 * p.length) (2 * p.length)) (mrow M0 row k) ∧ OwSS wr w1.heap.size w2.heap.size (.slice (some ⟨g, 0, none⟩) R.length rc) R ∧ Below w.heap.size w wr) (fun j _ => row.length - (intOf j).toNat)
        case atStart => exact ⟨0, by omega, rfl, hx, hown, hB⟩
        case round =>
          clear hx hown hB
          obtain ⟨k, hk, rfl, hx, hown, hB⟩ := hrel
          obtain ⟨Au, cu, hcu, hru⟩ := HCR.out _ hown
          by_cases hkl : k < row.length
          · obtain ⟨qn, hqn⟩ : ∃ qn, qn = (k + 1) % row.length := ⟨_, rfl⟩
            have hql : qn < row.length := by rw [hqn]; exact Nat.mod_lt _ (by omega)
            obtain ⟨i, hi, hip⟩ := HEL.out k hkl
            obtain ⟨j, hj, hjp⟩ := HEL.out qn hql
            obtain ⟨xb, xo, rfl, _, hxc⟩ := hru.at_ (by omega)
            have c1 := hxc k hkl
            have c2 := hxc qn hql
            rw [hi] at c1
            rw [hj] at c2
            have HS := Lib.hid (show mrow M0 row (k + 1) = ((mrow M0 row k).set (2 * i + 1) (2 * (j : Int))).set (2 * j) (2 * (i : Int) + 1) by
              rw [mrow_succ, ← hqn, getD_of hkl, getD_of hql, hi, hj]
              unfold mstep
              rw [show (2 * (i : Int) + 1).toNat = 2 * i + 1 by omega, show (2 * (j : Int)).toNat = 2 * j by omega])
            have hrl := mrow_len M0 row k
            rw [HML.out] at hrl
            have e1 : IntKind.i64.wrap ((k : Int) + 1) = (k : Int) + 1 := IntWalk.i64_in _ (by omega)
            have e2 : ((k : Int) + 1).tmod (row.length : Int) = (qn : Int) := by rw [Int.tmod_eq_emod_of_nonneg (by omega), hqn]; simp
            have hne : ((row.length : Int) == 0) = false := beq_eq_false_iff_ne.2 (by omega)
            have e3 : IntKind.i64.wrap (2 * (j : Int)) = 2 * (j : Int) := IntWalk.i64_in _ (by omega)
            have e4 : IntKind.i64.wrap (qn : Int) = (qn : Int) := IntWalk.i64_in _ (by omega)
            have hqi : (qn : Int) < (row.length : Int) := by omega
            have HQ := Lib.hid hqn
            clear hqn hi hj hxc
            go_wp2_with fail
            go_quiet (fail)
            clear e1 e2 e3 e4 hne hqi c1 c2 hcu
            obtain ⟨x, hx1⟩ : ∃ x : Nat, x = 2 * i + 1 := ⟨_, rfl⟩
            obtain ⟨z, hz1⟩ : ∃ z : Nat, z = 2 * j := ⟨_, rfl⟩
            rw [← hx1, ← hz1] at HS
            have hx2 : 2 * (i : Int) + 1 = (x : Int) := by omega
            have hz2 : 2 * (j : Int) = (z : Int) := by omega
            have hxl : x < 2 * p.length := by omega
            have hzl : z < 2 * p.length := by omega
            rw [hx2, hz2] at HS
            rw [hx2, hz2]
            clear hx2 hz2 hx1 hz1
            have hx := hx.drewN nq
            have hown := hown.drewN_ nq
            have hB := below_drewN hB nq
            generalize World.drewN wr nq = wd at *
            have k2 := hx.cellAt x (by omega)
            have k3 := hx.frozenAt x
            have hs5 := hx.stored x (z : Int)
            have k5 := hs5.1.cellAt z (by simp; omega)
            have k6 := hs5.1.frozenAt z
            have hs6 := hs5.1.stored z (x : Int)
            have hown6 := (hown.grown_row (u := .slice (some ⟨w.heap.size, 0, none⟩) (2 * p.length) (2 * p.length)) hs5.2 HAP.out).grown_row (u := .slice (some ⟨w.heap.size, 0, none⟩) (2 * p.length) (2 * p.length)) hs6.2 HAP.out
            have HS6 := Lib.hid hs6.1
            clear hs5 hs6

            go_wp2_with fail
            go_roundw
            case rel => exact ⟨k + 1, by omega, by go_num, by rw [HS.out]; exact HS6.out, hown6, (hB.setCell (Nat.le_refl _) _).setCell (Nat.le_refl _) _⟩
            case measure => simp [intOf]; omega
          · have hke : k = row.length := by omega
            subst hke
            go_wp2_with fail
            go_roundw
            case rel => exact ⟨y + 1, by omega, by go_num, by rw [HM.out]; exact hx, hown, hB⟩
            case measure => simp [intOf]; omega
      · have hke : y = R.length := by omega
        subst hke
        go_wp2_with fail
        go_ret2
        exact RetIB.mk HV.out hx hB
  · simp only [decide_eq_false hT] at HP0
    have HV := Lib.hid (show mopR p = ([], false) by unfold mopR; rw [if_neg hT])
    clear hT
    go_enter Try.func115, Try.ntmps115
    go_wp2_with fail
    refine HP0.mono ?_; rintro e w' ⟨rfl, q, rfl⟩
    go_wp2_with fail
    go_ret2
    exact RetIB.mk HV.out (OwI.empty_ _ _ (Nat.le_refl _)) ((below_draws _ _).alloc (Nat.le_refl _) _)
set_option maxHeartbeats 2000000 in
theorem implMatchingOfPartition_any (v : Value) (p : List Int) (w : World) (hv : RdI w v p) :
    Calls Try.prog 114 #[v] w (RetIB w (mopR p)) := by
  have hv0 := hv
  have HP0 := implIsNoncrossing_any _ _ _ hv0
  obtain ⟨A, c, rfl, hc, hl, _⟩ := hv
  by_cases hT : NonP p
  · simp only [decide_eq_true hT] at HP0
    have HV := Lib.hid (show mopR p = (mall (List.replicate (2 * p.length) 0) (bks p p.length) (bks p p.length).length, true) by unfold mopR; rw [if_pos hT])
    have h8 : p.length ≤ 8 := hT.1.1
    have HR := Lib.hid (show blocksR p = bks p p.length by unfold blocksR; rw [if_pos hT.1])
    have HI := Lib.hid (bks_rowsIn hT.1)
    clear hT
    go_enter Try.func114, Try.ntmps114
    go_wp2_with fail
    refine HP0.mono ?_; rintro e w' ⟨rfl, q, rfl⟩
    have hw2 : IntKind.i64.wrap (2 * (p.length : Int)) = 2 * (p.length : Int) := IntWalk.i64_in _ (by omega)
    go_wp2_with (at_make; refine wpList_makeI _ rfl _ _ rfl _ _ _ _ (2 * p.length) rfl rfl (by go_num) (by go_num) (by omega) ?_)
    intro w1 own1 b1
    have B1 := below_then (below_draws w q) b1
    have hlt1 : w.heap.size < w1.heap.size ∨ p.length = 0 := by
      rcases Nat.eq_zero_or_pos p.length with h | h
      · exact .inr h
      · exact .inl (own1.lt w.heap.size rfl).2
    clear hw2 b1 HP0
    go_wp2_with fail
    refine (implBlocksOf_any _ _ _ (hv0.below B1)).mono ?_; rintro e w2 ⟨r, rfl, hown, b2⟩
    have B2 := below_then B1 b2
    have own2 := own1.below b2
    rw [HR.out] at hown
    have hs12 := b2.size
    clear own1 b2 HR B1
    have HR0 := Lib.hid (show p.length = 0 → (bks p p.length).length = 0 from fun h => by rw [h]; rfl)
    generalize bks p p.length = R at *
    obtain ⟨rA, rc, rfl⟩ := hown.shape
    have hR8 := HI.out.1
    have HLT1 := Lib.hid hlt1
    clear hlt1
    go_wp2_with fail
    go_loopw [21] (fun i wr => ∃ y : Nat, y ≤ R.length ∧ i = .int .i64 (y : Int) ∧ OwI wr w.heap.size (.slice (some ⟨w.heap.size, 0, none⟩) (2 * p.length) (2 * p.length)) (mall (List.replicate (2 * p.length) 0) R y) ∧ OwSS wr w1.heap.size w2.heap.size (.slice rA R.length rc) R ∧ Below w.heap.size w wr) (fun i _ => R.length - (intOf i).toNat)
    case atStart => exact ⟨0, by omega, rfl, own2, hown, B2⟩
    case round =>
      clear own2 hown B2
      obtain ⟨y, hy, rfl, hx, hown, hB⟩ := hrel
      by_cases hlt : y < R.length
      · have HM := Lib.hid (show mall (List.replicate (2 * p.length) 0) R (y + 1) = mrow (mall (List.replicate (2 * p.length) 0) R y) R[y] R[y].length by rw [mall_succ, getD_of hlt])
        have hml := mall_len (List.replicate (2 * p.length) 0) R y
        rw [List.length_replicate] at hml
        have HML := Lib.hid hml
        clear hml
        obtain ⟨hr8, hel⟩ := HI.out.2 y hlt
        have HEL := Lib.hid hel
        have HRY := Lib.hid (rfl : R[y] = R[y])
        clear hel
        generalize mall (List.replicate (2 * p.length) 0) R y = M0 at *
        generalize hrow : R[y] = row at *
        have HROW := Lib.hid hrow
        clear HRY hrow
        obtain ⟨g, rfl, hg1, hg2⟩ := hown.at_ (by omega)
        have hap : ∀ g, (Value.slice (some ⟨w.heap.size, 0, none⟩) (2 * p.length) (2 * p.length)).ownBlock = some g → g < w1.heap.size ∨ w2.heap.size ≤ g := fun g hg => by
          injection hg with hg; subst hg
          rcases HLT1.out with h | h
          · exact .inl h
          · have := HR0.out h; omega
        have HAP := Lib.hid hap
        clear hap
        have hcR : ∀ wq, OwSS wq w1.heap.size w2.heap.size (.slice (some ⟨g, 0, none⟩) R.length rc) R → ∃ Au cu, wq.cell? ⟨g, y, none⟩ = some (.slice Au row.length cu) ∧ RdI wq (.slice Au row.length cu) row := by
          intro wq h
          obtain ⟨u, hcu, hru, _⟩ := h.row_at hlt
          rw [rowOf_get hlt, HROW.out] at hru
          obtain ⟨Au, cu, rfl, _⟩ := id hru.rd
          exact ⟨Au, cu, hcu, hru.rd⟩
        have HCR := Lib.hid hcR
        clear hcR
        obtain ⟨Au, cu, hcu, hru⟩ := HCR.out _ hown
        have hgl : w.heap.size < g := by
          rcases HLT1.out with h | h
          · omega
          · have := HR0.out h; omega
        go_wp2_with fail
        go_loopw [27] (fun j wr => ∃ k : Nat, k ≤ row.length ∧ j = .int .i64 (k : Int) ∧ OwI wr w.heap.size (.slice (some ⟨w.heap.size, 0, none⟩) (2 * p.length) (2 * p.length)) (mrow M0 row k) ∧ OwSS wr w1.heap.size w2.heap.size (.slice (some ⟨g, 0, none⟩) R.length rc) R ∧ wr.cell? ⟨g, y, none⟩ = some (.slice Au row.length cu) ∧ g < wr.heap.size ∧ Below w.heap.size w wr) (fun j _ => row.length - (intOf j).toNat)
        case atStart => exact ⟨0, by omega, rfl, hx, hown, hcu, hg2, hB⟩
        case round =>
          clear hx hown hB hcu hru hg2
          obtain ⟨k, hk, rfl, hx, hown, hcu, hg2, hB⟩ := hrel
          have hru : RdI wr (.slice Au row.length cu) row := by
            obtain ⟨Au', cu', h1, h2⟩ := HCR.out _ hown
            rw [hcu] at h1
            injection h1 with h1
            injection h1 with e1 e2 e3
            subst e1; subst e3
            exact h2
          by_cases hkl : k < row.length
          · obtain ⟨qn, hqn⟩ : ∃ qn, qn = (k + 1) % row.length := ⟨_, rfl⟩
            have hql : qn < row.length := by rw [hqn]; exact Nat.mod_lt _ (by omega)
            obtain ⟨i, hi, hip⟩ := HEL.out k hkl
            obtain ⟨j, hj, hjp⟩ := HEL.out qn hql
            obtain ⟨xb, xo, rfl, _, hxc⟩ := hru.at_ (by omega)
            have c1 := hxc k hkl
            have c2 := hxc qn hql
            rw [hi] at c1
            rw [hj] at c2
            have HS := Lib.hid (show mrow M0 row (k + 1) = ((mrow M0 row k).set (2 * i + 1) (2 * (j : Int))).set (2 * j) (2 * (i : Int) + 1) by
              rw [mrow_succ, ← hqn, getD_of hkl, getD_of hql, hi, hj]
              unfold mstep
              rw [show (2 * (i : Int) + 1).toNat = 2 * i + 1 by omega, show (2 * (j : Int)).toNat = 2 * j by omega])
            have hrl := mrow_len M0 row k
            rw [HML.out] at hrl
            have e2 : ((k : Int) + 1) % (row.length : Int) = (qn : Int) := by rw [hqn]; simp
            have e2' : ((k : Int) + 1).tmod (row.length : Int) = (qn : Int) := by rw [Int.tmod_eq_emod_of_nonneg (by omega)]; exact e2
            have hne : ((row.length : Int) == 0) = false := beq_eq_false_iff_ne.2 (by omega)
            have hqi : (qn : Int) < (row.length : Int) := by omega
            have HQ := Lib.hid hqn
            clear hqn hi hj hxc
            obtain ⟨x, hx1⟩ : ∃ x : Nat, x = 2 * i + 1 := ⟨_, rfl⟩
            obtain ⟨z, hz1⟩ : ∃ z : Nat, z = 2 * j := ⟨_, rfl⟩
            rw [← hx1, ← hz1] at HS
            have hx2 : 2 * (i : Int) + 1 = (x : Int) := by omega
            have hz2 : 2 * (j : Int) = (z : Int) := by omega
            have hxl : x < 2 * p.length := by omega
            have hzl : z < 2 * p.length := by omega
            rw [hx2, hz2] at HS
            have k2 := hx.cellAt x (by rw [hrl]; exact hxl)
            have k3 := hx.frozenAt x
            have hs5 := hx.stored x (z : Int)
            have k5 := hs5.1.cellAt z (by rw [List.length_set, hrl]; exact hzl)
            have k6 := hs5.1.frozenAt z
            have hs6 := hs5.1.stored z (x : Int)
            have hown6 := (hown.grown_row (u := .slice (some ⟨w.heap.size, 0, none⟩) (2 * p.length) (2 * p.length)) hs5.2 HAP.out).grown_row (u := .slice (some ⟨w.heap.size, 0, none⟩) (2 * p.length) (2 * p.length)) hs6.2 HAP.out
            have hcu6 := (World.cell?_of_block (a := ⟨g, y, none⟩) (hs6.2.block g (Nat.lt_of_lt_of_le hg2 hs5.2.size) (by simp; omega))).trans ((World.cell?_of_block (a := ⟨g, y, none⟩) (hs5.2.block g hg2 (by simp; omega))).trans hcu)
            have HX6 := Lib.hid (And.intro hs6.1 hcu6)
            have HG6 := Lib.hid (Nat.lt_of_lt_of_le hg2 (Nat.le_trans hs5.2.size hs6.2.size))
            clear hs5 hs6 hx1 hz1 hcu6
            go_wp2_with fail
            go_roundw
            case rel => exact ⟨k + 1, by omega, by go_num, by rw [HS.out]; exact HX6.out.1, hown6, HX6.out.2, HG6.out, (hB.setCell (Nat.le_refl _) _).setCell (Nat.le_refl _) _⟩
            case measure => simp [intOf]; omega
          · have hke : k = row.length := by omega
            subst hke
            go_wp2_with fail
            go_roundw
            case rel => exact ⟨y + 1, by omega, by go_num, by rw [HM.out]; exact hx, hown, hB⟩
            case measure => simp [intOf]; omega
      · have hke : y = R.length := by omega
        subst hke
        go_wp2_with fail
        go_ret2
        exact RetIB.mk HV.out hx hB
  · simp only [decide_eq_false hT] at HP0
    have HV := Lib.hid (show mopR p = ([], false) by unfold mopR; rw [if_neg hT])
    clear hT
    go_enter Try.func114, Try.ntmps114
    go_wp2_with fail
    refine HP0.mono ?_; rintro e w' ⟨rfl, q, rfl⟩
    go_wp2_with fail
    go_ret2
    exact RetIB.mk HV.out (OwI.empty_ _ _ (Nat.le_refl _)) ((below_draws _ _).alloc (Nat.le_refl _) _)
end Go.Proofs.Ytnkkgfeegaiakaa
