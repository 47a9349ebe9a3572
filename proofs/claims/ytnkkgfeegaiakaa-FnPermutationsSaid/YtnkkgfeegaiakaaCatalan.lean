/- Contract of CatalanNumber: the number of the table's last cell, for at most five pairs. Condition: the number of pairs. -/
import Derived.Test.YtnkkgfeegaiakaaGround
import Derived.Test.YtnkkgfeegaiakaaNum
namespace Go.Proofs.Ytnkkgfeegaiakaa
open Go.RowKit
/-- one row of the table out of the row ahead, store by store -/
def stB (row : List Int) (u : Nat) (o : List Int) (d : Nat) : List Int := if u < d then (o.set d (row.getD d 0)).set d ((o.set d (row.getD d 0)).getD d 0 + (o.set d (row.getD d 0)).getD (d - 1) 0) else o.set d (row.getD d 0)
def nxB (n : Nat) (row : List Int) (u j : Nat) : List Int := (List.range j).foldl (fun o i => stB row u o (u + i)) (List.replicate (n + 1) 0)
def rowB (n : Nat) : Nat → List Int
  | 0 => List.replicate (n + 1) 1
  | u + 1 => nxB n (rowB n u) (u + 1) (n - u)
def catV (n : Nat) : Int := (rowB n n).getD n 0
theorem nxB_succ (n : Nat) (row : List Int) (u j : Nat) : nxB n row u (j + 1) = stB row u (nxB n row u j) (u + j) := by simp [nxB, List.range_succ]
def oneB (n k : Nat) : List Int := (List.range k).foldl (fun o i => o.set i 1) (List.replicate (n + 1) 0)
theorem oneB_succ (n k : Nat) : oneB n (k + 1) = (oneB n k).set k 1 := by simp [oneB, List.range_succ]
theorem oneB_len (n k : Nat) : (oneB n k).length = n + 1 := by
  induction k with
  | zero => simp [oneB]
  | succ k ih => rw [oneB_succ, List.length_set, ih]
theorem stB_len (row : List Int) (u : Nat) (o : List Int) (d : Nat) : (stB row u o d).length = o.length := by unfold stB; split <;> simp
theorem nxB_len (n : Nat) (row : List Int) (u j : Nat) : (nxB n row u j).length = n + 1 := by
  induction j with
  | zero => simp [nxB]
  | succ j ih => rw [nxB_succ, stB_len, ih]
theorem rowB_len (n u : Nat) : (rowB n u).length = n + 1 := by
  cases u with
  | zero => simp [rowB]
  | succ u => exact nxB_len _ _ _ _
set_option maxRecDepth 100000 in
theorem catB_all : (List.range 6).all (fun n => decide (oneB n (n + 1) = rowB n 0) && (List.range (n + 1)).all fun u => (List.range (n + 1)).all fun i => decide (0 ≤ (rowB n u).getD i 0 ∧ (rowB n u).getD i 0 ≤ 100) && (List.range (n + 1)).all fun j => decide (0 ≤ (nxB n (rowB n u) (u + 1) j).getD i 0 ∧ (nxB n (rowB n u) (u + 1) j).getD i 0 ≤ 100)) = true := by decide +kernel
theorem catB {n u i : Nat} (hn : n ≤ 5) (hu : u ≤ n) (hi : i ≤ n) : (0 ≤ (rowB n u).getD i 0 ∧ (rowB n u).getD i 0 ≤ 100) ∧ ∀ j, j ≤ n → 0 ≤ (nxB n (rowB n u) (u + 1) j).getD i 0 ∧ (nxB n (rowB n u) (u + 1) j).getD i 0 ≤ 100 := by
  have h := List.all_eq_true.1 catB_all n (List.mem_range.2 (by omega))
  rw [Bool.and_eq_true] at h
  have h2 := List.all_eq_true.1 (List.all_eq_true.1 h.2 u (List.mem_range.2 (by omega))) i (List.mem_range.2 (by omega))
  rw [Bool.and_eq_true] at h2
  exact ⟨of_decide_eq_true h2.1, fun j hj => of_decide_eq_true (List.all_eq_true.1 h2.2 j (List.mem_range.2 (by omega)))⟩
theorem catB_one {n : Nat} (hn : n ≤ 5) : oneB n (n + 1) = rowB n 0 := by
  have h := List.all_eq_true.1 catB_all n (List.mem_range.2 (by omega))
  rw [Bool.and_eq_true] at h
  exact of_decide_eq_true h.1
theorem getD_self {l : List Int} {d : Nat} {x : Int} (h : d < l.length) : (l.set d x).getD d 0 = x := by
  rw [getD_of (by rw [List.length_set]; exact h)]; simp
theorem getD_other {l : List Int} {d e : Nat} {x : Int} (h : e < l.length) (hne : d ≠ e) : (l.set d x).getD e 0 = l.getD e 0 := by
  rw [getD_of (by rw [List.length_set]; exact h), List.getElem_set, if_neg hne, getD_of h]
set_option maxHeartbeats 2000000 in
theorem implBallot_any (n : Nat) (hn : n ≤ 5) (w : World) :
    Calls Try.prog 203 #[.int .i64 (n : Int), .int .i64 (n : Int)] w fun e w' => e = .returned (.int .i64 (catV n)) ∧ Below w.heap.size w w' := by
  go_enter Try.func203, Try.ntmps203
  go_wp2_with fail
  refine (within_yes _ _ _ _ (by omega) (by omega)).mono ?_; rintro e w' ⟨rfl, rfl⟩
  go_wp2_with fail
  refine (within_yes _ _ _ _ (by omega) (by omega)).mono ?_; rintro e w' ⟨rfl, rfl⟩
  have ew : IntKind.i64.wrap ((n : Int) + 1) = (n : Int) + 1 := IntWalk.i64_in _ (by omega)
  go_wp2_with (at_make; refine wpList_makeI _ rfl _ _ rfl _ _ _ _ (n + 1) rfl rfl (by go_num) (by go_num) (by omega) ?_)
  intro w1 o1 b1
  go_wp2_with fail
  go_loopw [24] (fun i wr => ∃ k : Nat, k ≤ n + 1 ∧ i = .int .i64 (k : Int) ∧ OwI wr w.heap.size (.slice (some ⟨w.heap.size, 0, none⟩) (n + 1) (n + 1)) (oneB n k) ∧ Below w.heap.size w wr) (fun i _ => n + 1 - (intOf i).toNat)
  case atStart => exact ⟨0, by omega, rfl, o1, b1⟩
  case round =>
    clear o1 b1
    obtain ⟨k, hk, rfl, hown, hB⟩ := hrel
    by_cases hlt : k < n + 1
    · have hlti : (k : Int) < (n : Int) + 1 := by omega
      have c2 := hown.cellAt k (by rw [oneB_len]; exact hlt)
      have c3 := hown.frozenAt k
      have HS := Lib.hid (hown.stored k 1).1
      have HO := Lib.hid (oneB_succ n k)
      go_wp2_with fail
      go_roundw
      case rel => exact ⟨k + 1, by omega, by go_num, by rw [HO.out]; exact HS.out, hB.setCell (Nat.le_refl _) _⟩
      case measure => simp [intOf]; omega
    · have hlti : ¬ (k : Int) < (n : Int) + 1 := by omega
      obtain rfl : k = n + 1 := by omega
      rw [catB_one hn] at hown
      obtain ⟨V0, hV0⟩ : ∃ V0, V0 = Value.slice (some ⟨w.heap.size, 0, none⟩) (n + 1) (n + 1) := ⟨_, rfl⟩
      have hown : OwI wr w.heap.size V0 (rowB n 0) := by rw [hV0]; exact hown
      go_wp2_with fail
      rw [← hV0]
      go_loopw [5, 7] (fun v i wq => ∃ u : Nat, u ≤ n ∧ i = .int .i64 ((u : Int) + 1) ∧ OwI wq w.heap.size v (rowB n u) ∧ (∃ g c, v = .slice (some ⟨g, 0, none⟩) (n + 1) c) ∧ Below w.heap.size w wq) (fun _ i _ => n + 2 - (intOf i).toNat)
      case atStart => exact ⟨0, by omega, rfl, hown, ⟨_, _, hV0⟩, hB⟩
      case round =>
        clear hown hB hV0 hlt hlti hk
        obtain ⟨u, hu, rfl, hown, ⟨g, c, rfl⟩, hB⟩ := hrel
        by_cases hlu : u + 1 ≤ n
        · have hlui : (u : Int) + 1 ≤ (n : Int) := by omega
          go_wp2_with (at_make; refine wpList_makeI _ rfl _ _ rfl _ _ _ _ (n + 1) rfl rfl (by go_num) (by go_num) (by omega) ?_)
          intro w2 o2 b2
          have hown2 := hown.below b2
          have hB2 := below_then hB b2
          have hgl := (hown.lt g rfl).2
          have o2 := o2.mono hB.size
          obtain ⟨g2, hg2⟩ : ∃ g2, g2 = wr.heap.size := ⟨_, rfl⟩
          rw [← hg2] at o2 hgl ⊢
          have hg2b : w.heap.size ≤ g2 := by rw [hg2]; exact hB.size
          clear hown hB b2 hg2
          go_wp2_with fail
          go_loopw [9] (fun i wz => ∃ j : Nat, j ≤ n - u ∧ i = .int .i64 ((u : Int) + 1 + (j : Int)) ∧ OwI wz w.heap.size (.slice (some ⟨g2, 0, none⟩) (n + 1) (n + 1)) (nxB n (rowB n u) (u + 1) j) ∧ OwI wz w.heap.size (.slice (some ⟨g, 0, none⟩) (n + 1) c) (rowB n u) ∧ Below w.heap.size w wz) (fun i _ => n + 2 - (intOf i).toNat)
          case atStart => exact ⟨0, by omega, by simp, o2, hown2, hB2⟩
          case round =>
            clear o2 hown2 hB2
            obtain ⟨j, hj, rfl, hnx, hrw, hB⟩ := hrel
            by_cases hlj : j < n - u
            · obtain ⟨D, hD⟩ : ∃ D : Nat, D = u + 1 + j := ⟨_, rfl⟩
              have hDi : (u : Int) + 1 + (j : Int) = (D : Int) := by omega
              rw [hDi]
              have hDn : (D : Int) ≤ (n : Int) := by omega
              have hDl : (D : Int) < (n : Int) + 1 := by omega
              have HCB := Lib.hid (catB hn hu (show D ≤ n by omega))
              have HCP := Lib.hid (catB hn hu (show D - 1 ≤ n by omega))
              have HSX := Lib.hid (nxB_succ n (rowB n u) (u + 1) j)
              rw [← hD] at HSX
              have hl1 := rowB_len n u
              have hl2 := nxB_len n (rowB n u) (u + 1) j
              have r1 := hrw.cellAt D (by omega)
              rw [← getD_of (show D < (rowB n u).length by omega) 0] at r1
              have c2 := hnx.cellAt D (by omega)
              have c3 := hnx.frozenAt D
              have hjn : j ≤ n := by omega
              have HB1 := HCB.out.1
              have HB2 := HCP.out.2 j hjn
              obtain ⟨Y, hY⟩ : ∃ Y, Y = (rowB n u).getD D 0 := ⟨_, rfl⟩
              rw [← hY] at r1 HB1
              have HST := Lib.hid (hnx.stored D Y)
              have hrw2 : OwI (wr.setCell ⟨g2, D, none⟩ (.int .i64 Y)) w.heap.size (.slice (some ⟨g, 0, none⟩) (n + 1) c) (rowB n u) := hrw.grown HST.out.2 (.inr (by simp [Value.ownBlock]; omega))
              have hBs : Below w.heap.size w (wr.setCell ⟨g2, D, none⟩ (.int .i64 Y)) := hB.setCell hg2b _
              have hn2 := HST.out.1
              have e9 : (D : Int) + 1 = (u : Int) + 1 + ((j + 1 : Nat) : Int) := by omega
              rcases Nat.lt_or_ge 0 j with hj0 | hj0
              · have hgt : (u : Int) + 1 < (D : Int) := by omega
                obtain ⟨Z, hZ⟩ : ∃ Z, Z = (nxB n (rowB n u) (u + 1) j).getD (D - 1) 0 := ⟨_, rfl⟩
                have hls : ((nxB n (rowB n u) (u + 1) j).set D Y).length = n + 1 := by rw [List.length_set]; exact hl2
                have d2 := hn2.cellAt D (by omega)
                rw [← getD_of (by rw [hls]; omega) 0, getD_self (by omega)] at d2
                have d3 := hn2.frozenAt D
                have d4 := hn2.cellAt (D - 1) (by omega)
                rw [← getD_of (by rw [hls]; omega) 0, getD_other (by omega) (by omega), ← hZ] at d4
                rw [← hZ] at HB2
                have HFIN := Lib.hid (show nxB n (rowB n u) (u + 1) (j + 1) = ((nxB n (rowB n u) (u + 1) j).set D Y).set D (Y + Z) by
                  rw [HSX.out]; unfold stB
                  rw [if_pos (by omega), ← hY, getD_self (by omega), getD_other (by omega) (by omega), ← hZ])
                have HS2 := Lib.hid (hn2.stored D (Y + Z))
                have hrw3 := hrw2.grown HS2.out.2 (.inr (by simp [Value.ownBlock]; omega))
                have hBz : Below w.heap.size w ((wr.setCell ⟨g2, D, none⟩ (.int .i64 Y)).setCell ⟨g2, D, none⟩ (.int .i64 (Y + Z))) := hBs.setCell hg2b _
                have ew1 : IntKind.i64.wrap ((D : Int) - 1) = ((D - 1 : Nat) : Int) := by rw [IntWalk.i64_in _ (by omega)]; omega
                have ew2 : IntKind.i64.wrap (Y + Z) = Y + Z := IntWalk.i64_in _ (by omega)
                have hDm : ((D - 1 : Nat) : Int) < (n : Int) + 1 := by omega
                have hDm0 : (0 : Int) ≤ ((D - 1 : Nat) : Int) := by omega
                have HH := Lib.hid (And.intro hrw3 hBz)
                clear hrw3 hBz hrw2 hBs hn2 hY hZ hD hDi hnx hrw hB
                go_wp2_with fail
                go_region
                all_goals
                  go_wp2_with fail
                  go_roundw
                  case rel => exact ⟨j + 1, by omega, by first | rfl | exact congrArg _ e9 | go_num, OwI.drewN (by rw [HFIN.out]; exact HS2.out.1) 1, OwI.drewN HH.out.1 1, below_drewN HH.out.2 1⟩
                  case measure => simp [intOf]; omega
              · have hgt : ¬ (u : Int) + 1 < (D : Int) := by omega
                have HFIN := Lib.hid (show nxB n (rowB n u) (u + 1) (j + 1) = (nxB n (rowB n u) (u + 1) j).set D Y by
                  rw [HSX.out]; unfold stB
                  rw [if_neg (by omega), ← hY])
                have HH := Lib.hid (And.intro hrw2 hBs)
                have HN := Lib.hid hn2
                clear hrw2 hBs hn2 hY hD hDi hnx hrw hB
                go_wp2_with fail
                go_roundw
                case rel => exact ⟨j + 1, by omega, by first | rfl | exact congrArg _ e9 | go_num, by rw [HFIN.out]; exact HN.out, HH.out.1, HH.out.2⟩
                case measure => simp [intOf]; omega
            · obtain rfl : j = n - u := by omega
              have hDn : ¬ (u : Int) + 1 + ((n - u : Nat) : Int) ≤ (n : Int) := by omega
              go_wp2_with fail
              go_roundw
              case rel => exact ⟨u + 1, by omega, by go_num, hnx, ⟨_, _, rfl⟩, hB⟩
              case measure => simp [intOf]; omega
        · have hlui : ¬ (u : Int) + 1 ≤ (n : Int) := by omega
          obtain rfl : u = n := by omega
          have hl1 := rowB_len u u
          have r1 := hown.cellAt u (by omega)
          rw [← getD_of (show u < (rowB u u).length by omega) 0] at r1
          have hlu2 : (u : Int) < (u : Int) + 1 := by omega
          have hfin : (rowB u u)[u]'(by omega) = catV u := (getD_of (by omega) 0).symm
          have HF := Lib.hid hfin
          clear hfin
          go_wp2_with fail
          go_ret
          exact ⟨ret_int HF.out, hB⟩
theorem implCatalan_any (n : Nat) (hn : n ≤ 5) (w : World) :
    Calls Try.prog 75 #[.int .i64 (n : Int)] w fun e w' => e = .returned (.int .i64 (catV n)) ∧ Below w.heap.size w w' := by
  go_enter Try.func75, Try.ntmps75
  go_wp2_with fail
  refine (within_yes _ _ _ _ (by omega) (by omega)).mono ?_; rintro e w' ⟨rfl, rfl⟩
  go_wp2_with fail
  refine (implBallot_any n hn _).mono ?_; rintro e w1 ⟨rfl, b1⟩
  go_wp2_with fail
  go_ret
  exact ⟨rfl, b1⟩
end Go.Proofs.Ytnkkgfeegaiakaa
