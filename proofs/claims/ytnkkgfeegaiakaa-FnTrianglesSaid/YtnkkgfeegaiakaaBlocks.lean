/- Contracts of BlocksOf, the program's and the reference's. No condition. -/
import Derived.Test.YtnkkgfeegaiakaaGround2
import Derived.Test.YtnkkgfeegaiakaaGround
namespace Go.Proofs.Ytnkkgfeegaiakaa
open Go.RowKit
def RetSS (w : World) (R : List (List Int)) (e : Ending) (w' : World) : Prop := ∃ r, e = .returned r ∧ OwSS w' w.heap.size w'.heap.size r R ∧ Below w.heap.size w w'
theorem RetSS.mk {w w' : World} {R l : List (List Int)} {r : Value} (h : R = l) (hr : OwSS w' w.heap.size w'.heap.size r l) (hb : Below w.heap.size w w') : RetSS w R (.returned r) w' := ⟨r, rfl, h ▸ hr, hb⟩
theorem OwSS.up {w w' : World} {base : Nat} {v : Value} {xss : List (List Int)} (h : OwSS w base w.heap.size v xss) (hb : Below w.heap.size w w') : OwSS w' base w'.heap.size v xss := (OwSS.below h hb).size
theorem bkStep_new (out : List (List Int)) (i : Nat) : bkStep out i (out.length : Int) = (out ++ [[]]).set out.length (rowOf (out ++ [[]]) out.length ++ [(i : Int)]) := by
  simp [bkStep, grow1, rowOf]
theorem bkStep_old {out : List (List Int)} {y : Nat} (i : Nat) (h : y ≠ out.length) : bkStep out i (y : Int) = out.set y (rowOf out y ++ [(i : Int)]) := by
  have : ¬ (y : Int) = (out.length : Int) := by omega
  unfold bkStep grow1
  rw [if_neg this]
  rfl
set_option maxHeartbeats 800000 in
theorem specBlocksOf_any (v : Value) (p : List Int) (w : World) (hv : RdI w v p) :
    Calls Try.prog 100 #[v] w (RetSS w (blocksR p)) := by
  have hv0 := hv
  obtain ⟨A, c, rfl, hc, hl, _⟩ := hv
  go_enter Try.func100, Try.ntmps100
  go_wp2_with fail
  have own0 := OwSS.empty_ w w.heap.size (Nat.le_refl _)
  have hB0 : Below w.heap.size w (w.alloc (.cells #[] 38)) := (Below.refl _ _).alloc (Nat.le_refl _) _
  have hsz0 : (w.alloc (.cells #[] 38)).heap.size = w.heap.size + 1 := by simp
  rw [← hsz0] at own0
  generalize w.alloc (.cells #[] 38) = w0 at own0 hB0 hsz0 ⊢
  go_loopw [3, 4] (fun x i wr => ∃ k : Nat, k ≤ p.length ∧ i = .int .i64 k ∧ OwSS wr w.heap.size wr.heap.size x (bks p k) ∧ Below w.heap.size w wr ∧ Hid (0 < k → PartP p)) (fun _ i _ => p.length - (intOf i).toNat)
  case atStart => exact ⟨0, by omega, rfl, own0, hB0, fun h => absurd h (by omega)⟩
  case round =>
    clear own0 hB0 hsz0 w0
    obtain ⟨k, hk, rfl, hown, hB, HPK⟩ := hrel
    by_cases hlt : k < p.length
    · by_cases hP : PartP p
      · have HP := Lib.hid hP
        have HI : Hid (∀ wq, Below w.heap.size w wq → Calls Try.prog 99 #[.slice A p.length c] wq fun e w' => e = .returned (.bool true) ∧ wq = w') := fun wq hq => (specIsPartition_any _ _ _ (hv0.below hq)).mono fun e w' h => ⟨by rw [h.1]; simp [HP.out], h.2⟩
        have h8 := hP.1
        obtain ⟨hp0, hp1, hp2⟩ := bks_facts hP hlt
        have HRL := Lib.hid (bks_rows p k)
        have HS := Lib.hid (show bks p (k + 1) = bkStep (bks p k) k p[k] by rw [bks_succ, getD_of hlt])
        clear hP
        generalize bks p k = out at hown hp1 hp2 HRL HS
        obtain ⟨b, o, rfl, hb, hcl⟩ := hv0.at_ (by omega)
        have d0 := (hB.cell (p := ⟨b, o + k, none⟩) hb).trans (hcl k hlt)
        have HD := Lib.hid (hcl k hlt)
        clear hcl
        obtain ⟨xA, xc, rfl⟩ := hown.shape
        obtain ⟨y, hy⟩ : ∃ y : Nat, p[k] = (y : Int) := ⟨p[k].toNat, by omega⟩
        have HY := Lib.hid hy
        rw [hy] at d0 hp0 hp1
        clear hy
        have hsz := hB.size
        by_cases he : y = out.length
        · subst he
          have f1 : ((out.length : Int) == (out.length : Int)) = true := by simp
          have u1 := OwI.empty_ wr w.heap.size hsz
          have b1 : Below wr.heap.size wr (wr.alloc (.cells #[] 3)) := (Below.refl _ _).alloc (Nat.le_refl _) _
          have hut : ∀ g, (Value.slice (some ⟨wr.heap.size, 0, none⟩) 0 0).ownBlock = some g → wr.heap.size ≤ g := fun g hg => by injection hg with hg; exact Nat.le_of_eq hg
          have hlen : out.length < 1099511627776 := by omega
          have hbase : w.heap.size ≤ (wr.alloc (.cells #[] 3)).heap.size := by simp; omega
          go_wp2_with (first
            | (go_at_call 99; refine (HI.out _ hB).mono ?_; rintro e w' ⟨rfl, rfl⟩)
            | (at_builtin; refine wpList_appSS (wr.alloc (.cells #[] 3)) rfl _ _ rfl wr w.heap.size _ _ out rfl hown b1 _ [] u1 hut rfl (by simp) hlen hbase ?_))
          intro v' w1 o1 g1 a1
          obtain ⟨ga, cap, rfl⟩ := a1.2
          have hB1 : Below w.heap.size w w1 := ((below_then hB b1)).grown g1 hbase (fun g hg => (hown.lt g hg).1)
          have hga : w.heap.size ≤ ga := (o1.lt ga rfl).1
          clear hown g1 a1
          have hs1 := hB1.size
          obtain ⟨ru, rc, ro, rk⟩ := o1.row (j := out.length) (by simp)
          have hrl : (rowOf (out ++ [[]]) out.length).length < 1099511627776 := by
            rw [rowOf_snoc_eq]; simp
          have ro1 : OwI w1.drew w.heap.size ru (rowOf (out ++ [[]]) out.length) := ro.drewN 1
          have hs1' : w.heap.size ≤ w1.drew.heap.size := hs1
          have hyl : (out.length : Int) < (out.length : Int) + 1 := by omega
          have d1 := (hB1.cell (p := ⟨b, o + k, none⟩) hb).trans HD.out
          rw [HY.out] at d1
          have HD2 : Hid (∀ wq, Below w.heap.size w wq → wq.cell? ⟨b, o + k, none⟩ = some (.int .i64 (out.length : Int))) := fun wq hq => by rw [← HY.out]; exact (hq.cell (p := ⟨b, o + k, none⟩) hb).trans HD.out
          clear d0
          have rcA : (w1.alloc (.cells #[.int .i64 (k : Int)] 3)).cell? ⟨ga, out.length, none⟩ = some ru := (Below.alloc (Below.refl _ _) (Nat.le_refl _) _ |>.cell (p := ⟨ga, out.length, none⟩) (o1.lt ga rfl).2).trans rc
          have d1A := HD2.out (w1.alloc (.cells #[.int .i64 (k : Int)] 3)) (hB1.alloc hs1 _)
          go_wp2_with fail
          go_region_law (
            refine step_appI w1.drew rfl (.tmp 38) (.tmp 40) rfl w.heap.size ru (rowOf (out ++ [[]]) out.length) (by simp [Act.eval]) ro1 (k : Int) (m := w1.drew.heap.size) (by simp [Act.eval]) rfl hrl hs1' ?_
            intro u' w2 o2 g2 a2
            obtain ⟨f3, c3, o3⟩ := rk u' w2 _ _ o2 (grown_trans_row (grown_draws w1 1 _) g2) a2
            have hB2 : Below w.heap.size w w2 := (below_drewN hB1 1).grown g2 hs1' (fun g hg => (ro1.lt g hg).1)
            have d2 := HD2.out w2 hB2
            obtain ⟨ug, ucap, rfl⟩ := a2.2
            have HK := Lib.hid o3
            have HKB := Lib.hid hB2
            clear o3 o2 g2 a2 hB2)
          all_goals (
            go_wp2_with fail
            go_roundw
            case rel => exact ⟨k + 1, by omega, by go_num, by rw [HS.out, HY.out, bkStep_new]; exact HK.out.size, HKB.out.setCell hga _, fun _ => HP.out⟩
            case measure => simp [intOf]; omega)
        · have hy2 : y < out.length := by omega
          have f1 : ((y : Int) == (out.length : Int)) = false := by simp; omega
          have HE := Lib.hid he
          clear he
          obtain ⟨ga, rfl, hga, hgal⟩ := hown.at_ (by omega)
          obtain ⟨ru, rc, ro, rk⟩ := hown.row (j := y) hy2
          have hrl : (rowOf out y).length < 1099511627776 := Nat.lt_of_le_of_lt (HRL.out y) (by omega)
          have ro1 : OwI wr.drew w.heap.size ru (rowOf out y) := ro.drewN 1
          have hs1' : w.heap.size ≤ wr.drew.heap.size := hsz
          have hyl : (y : Int) < (out.length : Int) := by omega
          have HD2 : Hid (∀ wq, Below w.heap.size w wq → wq.cell? ⟨b, o + k, none⟩ = some (.int .i64 (y : Int))) := fun wq hq => by rw [← HY.out]; exact (hq.cell (p := ⟨b, o + k, none⟩) hb).trans HD.out
          have rcA : (wr.alloc (.cells #[.int .i64 (k : Int)] 3)).cell? ⟨ga, y, none⟩ = some ru := (Below.alloc (Below.refl _ _) (Nat.le_refl _) _ |>.cell (p := ⟨ga, y, none⟩) hgal).trans rc
          have d1A := HD2.out (wr.alloc (.cells #[.int .i64 (k : Int)] 3)) (hB.alloc hsz _)
          go_wp2_with (go_at_call 99; refine (HI.out _ hB).mono ?_; rintro e w' ⟨rfl, rfl⟩)
          go_region_law (
            refine step_appI wr.drew rfl (.tmp 38) (.tmp 40) rfl w.heap.size ru (rowOf out y) (by simp [Act.eval]) ro1 (k : Int) (m := wr.drew.heap.size) (by simp [Act.eval]) rfl hrl hs1' ?_
            intro u' w2 o2 g2 a2
            obtain ⟨f3, c3, o3⟩ := rk u' w2 _ _ o2 (grown_trans_row (grown_draws wr 1 _) g2) a2
            have hB2 : Below w.heap.size w w2 := (below_drewN hB 1).grown g2 hs1' (fun g hg => (ro1.lt g hg).1)
            have d2 := HD2.out w2 hB2
            obtain ⟨ug, ucap, rfl⟩ := a2.2
            have HK := Lib.hid o3
            have HKB := Lib.hid hB2
            clear o3 o2 g2 a2 hB2)
          all_goals (
            go_wp2_with fail
            go_roundw
            case rel => exact ⟨k + 1, by omega, by go_num, by rw [HS.out, HY.out, bkStep_old _ HE.out]; exact HK.out.size, HKB.out.setCell hga _, fun _ => HP.out⟩
            case measure => simp [intOf]; omega)
      · have HP := Lib.hid hP
        have HI : Hid (∀ wq, Below w.heap.size w wq → Calls Try.prog 99 #[.slice A p.length c] wq fun e w' => e = .returned (.bool false) ∧ wq = w') := fun wq hq => (specIsPartition_any _ _ _ (hv0.below hq)).mono fun e w' h => ⟨by rw [h.1]; simp [HP.out], h.2⟩
        have hk0 : k = 0 := by
          rcases Nat.eq_zero_or_pos k with h | h
          · exact h
          · exact absurd (HPK.out h) hP
        subst hk0
        have HR := Lib.hid (show blocksR p = bks p 0 by unfold blocksR; rw [if_neg hP]; rfl)
        clear hP
        obtain ⟨xA, xc, rfl⟩ := hown.shape
        go_wp2_with (go_at_call 99; refine (HI.out _ hB).mono ?_; rintro e w' ⟨rfl, rfl⟩)
        go_ret
        exact RetSS.mk HR.out hown hB
    · have hke : k = p.length := by omega
      have HR := Lib.hid (show blocksR p = bks p k by
        unfold blocksR
        by_cases hP : PartP p
        · rw [if_pos hP, hke]
        · rw [if_neg hP]
          rcases Nat.eq_zero_or_pos k with h | h
          · rw [h]; rfl
          · exact absurd (HPK.out h) hP)
      obtain ⟨xA, xc, rfl⟩ := hown.shape
      go_wp2_with fail
      go_ret
      exact RetSS.mk HR.out hown hB
end Go.Proofs.Ytnkkgfeegaiakaa
