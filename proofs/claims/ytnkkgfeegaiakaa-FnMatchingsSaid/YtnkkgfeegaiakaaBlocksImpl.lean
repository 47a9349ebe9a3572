/- Contract of the program's BlocksOf. No condition. -/
import Derived.Test.YtnkkgfeegaiakaaBlocks
import Derived.Test.YtnkkgfeegaiakaaSSMark
namespace Go.Proofs.Ytnkkgfeegaiakaa
open Go.RowKit
theorem blocksR_off (p : List Int) : off (blocksR p) (blocksR p).length ≤ 64 := by
  unfold blocksR
  by_cases hP : PartP p
  · rw [if_pos hP]
    have h1 := bks_len hP p.length (Nat.le_refl _)
    have h2 := nextOf_le_k p hP p.length (Nat.le_refl _)
    have h8 := hP.1
    have h3 : off (bks p p.length) (bks p p.length).length ≤ (bks p p.length).length * p.length := sumTo_le fun i _ => bks_rows p p.length i
    exact Nat.le_trans h3 (Nat.mul_le_mul (show _ ≤ 8 by omega) h8)
  · rw [if_neg hP]; exact Nat.zero_le _
set_option maxHeartbeats 800000 in
theorem implBlocksOf_any (v : Value) (p : List Int) (w : World) (hv : RdI w v p) :
    Calls Try.prog 88 #[v] w (RetSS w (blocksR p)) := by
  have hv0 := hv
  obtain ⟨A, c, rfl, hc, hl, _⟩ := hv
  have own0 := OwSS.empty_ w w.heap.size (Nat.le_refl _)
  have hB0 : Below w.heap.size w (w.alloc (.cells #[] 38)) := (Below.refl _ _).alloc (Nat.le_refl _) _
  have hsz0 : (w.alloc (.cells #[] 38)).heap.size = w.heap.size + 1 := by simp
  rw [← hsz0] at own0
  have HP0 := implIsPartition_any _ _ _ (hv0.below hB0)
  by_cases hP : PartP p
  · simp only [decide_eq_true hP] at HP0
    have HR := Lib.hid (show blocksR p = bks p p.length by unfold blocksR; rw [if_pos hP])
    have HP := Lib.hid hP
    have h8 := hP.1
    clear hP
    go_enter Try.func88, Try.ntmps88
    go_wp2_with fail
    refine HP0.mono ?_; rintro e w' ⟨rfl, rfl⟩
    generalize w.alloc (.cells #[] 38) = w0 at own0 hB0 hsz0 ⊢
    go_wp2_with fail
    go_loopw [3, 13] (fun x i wr => ∃ k : Nat, k ≤ p.length ∧ i = .int .i64 k ∧ OwSS wr w.heap.size wr.heap.size x (bks p k) ∧ Below w.heap.size w wr) (fun _ i _ => p.length - (intOf i).toNat)
    case atStart => exact ⟨0, by omega, rfl, own0, hB0⟩
    case round =>
      clear own0 hB0 hsz0 w0
      obtain ⟨k, hk, rfl, hown, hB⟩ := hrel
      by_cases hlt : k < p.length
      · obtain ⟨hp0, hp1, hp2⟩ := bks_facts HP.out hlt
        have HRL := Lib.hid (bks_rows p k)
        have HS := Lib.hid (show bks p (k + 1) = bkStep (bks p k) k p[k] by rw [bks_succ, getD_of hlt])
        generalize bks p k = out at hown hp1 hp2 HRL HS
        obtain ⟨b, o, rfl, hb, hcl⟩ := hv0.at_ (by omega)
        have d0 := (hB.cell (p := ⟨b, o + k, none⟩) hb).trans (hcl k hlt)
        clear hcl
        obtain ⟨xA, xc, rfl⟩ := hown.shape
        obtain ⟨y, hy⟩ : ∃ y : Nat, p[k] = (y : Int) := ⟨p[k].toNat, by omega⟩
        have HY := Lib.hid hy
        rw [hy] at d0 hp0 hp1
        clear hy
        have hsz := hB.size
        by_cases he : y = out.length
        · subst he
          have f1 : ((out.length : Int) == (out.length : Int)) = true := by simp
          have u1 := OwI.empty_ wr w.heap.size hsz
          have b1 : Below wr.heap.size wr (wr.alloc (.cells #[] 3)) := (Below.refl _ _).alloc (Nat.le_refl _) _
          have hut : ∀ g, (Value.slice (some ⟨wr.heap.size, 0, none⟩) 0 0).ownBlock = some g → wr.heap.size ≤ g := fun g hg => by injection hg with hg; exact Nat.le_of_eq hg
          have hlen : out.length < 1099511627776 := by omega
          have hbase : w.heap.size ≤ (wr.alloc (.cells #[] 3)).heap.size := by simp; omega
          go_wp2_with (at_builtin; refine wpList_appSS (wr.alloc (.cells #[] 3)) rfl _ _ rfl wr w.heap.size _ _ out rfl hown b1 _ [] u1 hut rfl (by simp) hlen hbase ?_)
          intro v' w1 o1 g1 a1
          obtain ⟨ga, cap, rfl⟩ := a1.2
          have hB1 : Below w.heap.size w w1 := ((below_then hB b1)).grown g1 hbase (fun g hg => (hown.lt g hg).1)
          have hga : w.heap.size ≤ ga := (o1.lt ga rfl).1
          clear hown g1 a1
          have hs1 := hB1.size
          obtain ⟨ru, rc, ro, rk⟩ := o1.row (j := out.length) (by simp)
          have hrl : (rowOf (out ++ [[]]) out.length).length < 1099511627776 := by
            rw [rowOf_snoc_eq]; simp
          have hyl : (out.length : Int) < (out.length : Int) + 1 := by omega
          clear d0
          go_wp2_with (at_builtin; refine wpList_appI _ rfl _ _ rfl w.heap.size _ _ rfl ro _ rfl (by simp) hrl hs1 ?_)
          intro u' w2 o2 g2 a2
          obtain ⟨f3, c3, o3⟩ := rk u' w2 _ _ o2 g2 a2
          have hB2 : Below w.heap.size w w2 := hB1.grown g2 hs1 (fun g hg => (ro.lt g hg).1)
          obtain ⟨ug, ucap, rfl⟩ := a2.2
          have HK := Lib.hid o3
          clear o3 o2 g2 a2
          go_wp2_with fail
          go_roundw
          case rel => exact ⟨k + 1, by omega, by go_num, by rw [HS.out, HY.out, bkStep_new]; exact HK.out.size, hB2.setCell hga _⟩
          case measure => simp [intOf]; omega
        · have hy2 : y < out.length := by omega
          have f1 : ((y : Int) == (out.length : Int)) = false := by simp; omega
          have HE := Lib.hid he
          clear he
          obtain ⟨ga, rfl, hga, hgal⟩ := hown.at_ (by omega)
          obtain ⟨ru, rc, ro, rk⟩ := hown.row (j := y) hy2
          have hrl : (rowOf out y).length < 1099511627776 := Nat.lt_of_le_of_lt (HRL.out y) (by omega)
          have hyl : (y : Int) < (out.length : Int) := by omega
          go_wp2_with (at_builtin; refine wpList_appI _ rfl _ _ rfl w.heap.size _ _ rfl ro _ rfl (by simp) hrl hsz ?_)
          intro u' w2 o2 g2 a2
          obtain ⟨f3, c3, o3⟩ := rk u' w2 _ _ o2 g2 a2
          have hB2 : Below w.heap.size w w2 := hB.grown g2 hsz (fun g hg => (ro.lt g hg).1)
          obtain ⟨ug, ucap, rfl⟩ := a2.2
          have HK := Lib.hid o3
          clear o3 o2 g2 a2
          go_wp2_with fail
          go_roundw
          case rel => exact ⟨k + 1, by omega, by go_num, by rw [HS.out, HY.out, bkStep_old _ HE.out]; exact HK.out.size, hB2.setCell hga _⟩
          case measure => simp [intOf]; omega
      · have hke : k = p.length := by omega
        subst hke
        obtain ⟨xA, xc, rfl⟩ := hown.shape
        go_wp2_with fail
        go_ret
        exact RetSS.mk HR.out hown hB
  · simp only [decide_eq_false hP] at HP0
    have HR := Lib.hid (show blocksR p = [] by unfold blocksR; rw [if_neg hP])
    clear hP
    go_enter Try.func88, Try.ntmps88
    go_wp2_with fail
    refine HP0.mono ?_; rintro e w' ⟨rfl, rfl⟩
    go_wp2_with fail
    go_ret
    exact RetSS.mk HR.out own0 hB0
end Go.Proofs.Ytnkkgfeegaiakaa
