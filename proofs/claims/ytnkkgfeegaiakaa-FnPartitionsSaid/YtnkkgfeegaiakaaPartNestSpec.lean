/- Contract of the reference's IsNonnesting: returns whether the numbers are a partition without nested arcs. No condition. -/
import Derived.Test.YtnkkgfeegaiakaaBlocks
import Derived.Test.YtnkkgfeegaiakaaPlain12
namespace Go.Proofs.Ytnkkgfeegaiakaa
open Go.RowKit
theorem RdSS.len_le_ {w : World} {v : Value} {xss : List (List Int)} (h : RdSS w v xss) : xss.length ≤ 1099511627776 := by obtain ⟨A, c, _, _, h2, _⟩ := h; exact h2
theorem arcRow_len (r : List Int) (k : Nat) : (arcRow r k).length = k - 1 := by simp [arcRow]
theorem arcRow_one (r : List Int) : arcRow r 1 = [] := rfl
theorem arcRow_succ (r : List Int) (j : Nat) : arcRow r (j + 1 + 1) = arcRow r (j + 1) ++ [[r.getD j 0, r.getD (j + 1) 0]] := by
  unfold arcRow
  rw [Nat.add_sub_cancel, Nat.add_sub_cancel, List.range_succ, List.map_append]; rfl
theorem arcsL_len {bl : List (List Int)} (h : ∀ y, (bl.getD y []).length ≤ 8) : ∀ i, (arcsL bl i).length ≤ i * 8 := by
  intro i
  induction i with
  | zero => simp [arcsL]
  | succ i ih =>
    rw [arcsL, List.length_append, arcRow_len]
    have := h i
    omega
set_option maxHeartbeats 1600000 in
theorem specIsNonnesting_any (v : Value) (p : List Int) (w : World) (hv : RdI w v p) :
    Calls Try.prog 102 #[v] w fun e w' => e = .returned (.bool (decide (NnP p))) ∧ Below w.heap.size w w' := by
  have hv0 := hv
  obtain ⟨A, c, rfl, hc, hl, _⟩ := hv
  have HP0 := specIsPartition_any _ _ _ hv0
  by_cases hP : PartP p
  · simp only [decide_eq_true hP] at HP0
    have h8 := hP.1
    have HBL := specBlocksOf_any _ _ _ hv0
    rw [show blocksR p = bks p p.length by unfold blocksR; rw [if_pos hP]] at HBL
    have HROW := Lib.hid (fun y => Nat.le_trans (bks_rows p p.length y) h8)
    have hbn : (bks p p.length).length ≤ 8 := by
      have h1 := bks_len hP p.length (Nat.le_refl _)
      have h2 := nextOf_le_k p hP p.length (Nat.le_refl _)
      omega
    have HNN := Lib.hid (show NnP p ↔ nnS (arcsL (bks p p.length) (bks p p.length).length) = true by
      have := nn_eq hP
      unfold arcsOf at this
      rw [this]
      exact ⟨fun h => h.2, fun h => ⟨hP, h⟩⟩)
    have HTWO := Lib.hid (show ∀ x ∈ arcsL (bks p p.length) (bks p p.length).length, x.length = 2 by
      intro x hx
      obtain ⟨a, _, _, rfl⟩ := arcs_from hP hx
      rfl)
    clear hP
    go_enter Try.func102, Try.ntmps102
    go_wp2_with fail
    refine HP0.mono ?_; rintro e w' ⟨rfl, rfl⟩
    go_wp2_with fail
    refine HBL.mono ?_; rintro e wB ⟨bv, rfl, obl, bB⟩
    generalize bks p p.length = bl at obl HROW hbn HNN HTWO
    have rbl := obl.rd
    obtain ⟨bA, bc, rfl⟩ := obl.shape
    clear obl HP0 HBL
    go_wp2_with fail
    have own0 := OwSS.empty_ wB wB.heap.size (Nat.le_refl _)
    have hB0 : Below wB.heap.size wB (wB.alloc (.cells #[] 38)) := (Below.refl _ _).alloc (Nat.le_refl _) _
    have hsz0 : (wB.alloc (.cells #[] 38)).heap.size = wB.heap.size + 1 := by simp
    rw [← hsz0] at own0
    generalize wB.alloc (.cells #[] 38) = w0 at own0 hB0 hsz0 ⊢
    go_loopw [4, 5] (fun x i wr => ∃ k : Nat, k ≤ bl.length ∧ i = .int .i64 k ∧ OwSS wr wB.heap.size wr.heap.size x (arcsL bl k) ∧ Below wB.heap.size wB wr) (fun _ i _ => bl.length - (intOf i).toNat)
    case atStart => exact ⟨0, by omega, rfl, own0, hB0⟩
    case round =>
      clear own0 hB0 hsz0 w0
      obtain ⟨i, hi, rfl, hown, hB⟩ := hrel
      by_cases hlt : i < bl.length
      · have HRL := Lib.hid (show bl[i].length ≤ 8 by have := HROW.out i; rwa [getD_of hlt] at this)
        have HAL := Lib.hid (arcsL_len HROW.out i)
        have HNX := Lib.hid (show arcsL bl (i + 1) = arcsL bl i ++ arcRow bl[i] bl[i].length by rw [arcsL, getD_of hlt])
        obtain ⟨xA, xc, rfl⟩ := hown.shape
        have hown2 : OwSS wr wB.heap.size wr.heap.size (.slice xA (arcsL bl i).length xc) (arcsL bl i ++ arcRow bl[i] 1) := by rw [arcRow_one, List.append_nil]; exact hown
        clear hown
        generalize arcsL bl i = as0 at *
        go_wp2_with fail
        go_loopw [4, 6] (fun x k wr => ∃ j : Nat, j ≤ bl[i].length - 1 ∧ k = .int .i64 ((j : Int) + 1) ∧ OwSS wr wB.heap.size wr.heap.size x (as0 ++ arcRow bl[i] (j + 1)) ∧ Below wB.heap.size wB wr) (fun _ k _ => bl[i].length + 1 - (intOf k).toNat)
        case atStart => exact ⟨0, by omega, rfl, hown2, hB⟩
        case round =>
          clear hown2 hB
          obtain ⟨j, hj, rfl, hown, hB⟩ := hrel
          obtain ⟨bb, bo, rfl, hbb, hbc⟩ := (rbl.below hB).at_ (by omega)
          obtain ⟨u, d0, hu⟩ := hbc i hlt
          clear hbc
          obtain ⟨uA, uc, rfl, _⟩ := id hu
          by_cases hlt2 : j + 1 < bl[i].length
          · obtain ⟨ub, uo, rfl, hub, huc⟩ := hu.at_ (by omega)
            have d1 := huc j (by omega)
            have d2 := huc (j + 1) hlt2
            clear huc
            have hj1 : (j : Int) + 1 < (bl[i].length : Int) := by omega
            have hj2 : ((j : Int) + 1).toNat = j + 1 := by omega
            have hj3 : IntKind.i64.wrap (j : Int) = (j : Int) := IntWalk.i64_in _ (by have := HRL.out; omega)
            have hj4 : (j : Int) + 1 - 1 = (j : Int) := by omega
            have hj5 : (j : Int) < (bl[i].length : Int) := by omega
            have hj6 : (0 : Int) ≤ (j : Int) + 1 := by omega
            obtain ⟨xA, xc, rfl⟩ := hown.shape
            have hasl : (as0 ++ arcRow bl[i] (j + 1)).length < 1099511627776 := by
              rw [List.length_append, arcRow_len]
              have := HAL.out
              have := HRL.out
              omega
            have hsz := hB.size
            have hX : ∀ x y : Int, OwI (wr.drew.alloc (.cells #[.int .i64 x, .int .i64 y] 3)) wB.heap.size (.slice (some ⟨wr.heap.size, 0, none⟩) 2 2) [x, y] := fun x y => OwR.lit (e := 3) (f := Value.int .i64) wr.drew [x, y] wB.heap.size hsz (by simp)
            have HXX := hX bl[i][j] bl[i][j + 1]
            have hbX : Below wr.heap.size wr (wr.drew.alloc (.cells #[.int .i64 bl[i][j], .int .i64 bl[i][j + 1]] 3)) := (below_draws wr 1).alloc (Nat.le_refl _) _
            have hut : ∀ g, (Value.slice (some ⟨wr.heap.size, 0, none⟩) 2 2).ownBlock = some g → wr.heap.size ≤ g := fun g hg => by injection hg with hg; exact Nat.le_of_eq hg
            have hbase : wB.heap.size ≤ (wr.drew.alloc (.cells #[.int .i64 bl[i][j], .int .i64 bl[i][j + 1]] 3)).heap.size := Nat.le_trans hsz hbX.size
            have HNJ := Lib.hid (show as0 ++ arcRow bl[i] (j + 1 + 1) = as0 ++ arcRow bl[i] (j + 1) ++ [[bl[i][j], bl[i][j + 1]]] by rw [arcRow_succ, getD_of (by omega), getD_of hlt2, List.append_assoc])
            clear hX
            go_wp2_with fail
            go_region_law (
              refine step_appSS (wr.drew.alloc (.cells #[.int .i64 bl[i][j], .int .i64 bl[i][j + 1]] 3)) rfl (.tmp 30) (.tmp 47) rfl wr wB.heap.size wr.heap.size (.slice xA (as0 ++ arcRow bl[i] (j + 1)).length xc) (as0 ++ arcRow bl[i] (j + 1)) (by simp [Act.eval, Act.put]) hown hbX (.slice (some ⟨wr.heap.size, 0, none⟩) 2 2) [bl[i][j], bl[i][j + 1]] HXX hut (m := (wr.drew.alloc (.cells #[.int .i64 bl[i][j], .int .i64 bl[i][j + 1]] 3)).heap.size) (by simp [Act.eval, Act.put]) rfl hasl hbase ?_
              intro v' w2 o2 g2 a2
              have hB2 : Below wB.heap.size wB w2 := (below_then hB hbX).grown g2 hbase (fun g hg => (hown.lt g hg).1)
              obtain ⟨ug, ucap, rfl⟩ := a2.2
              have HK := Lib.hid o2
              have HKB := Lib.hid hB2
              clear o2 g2 a2 hB2)
            all_goals (
              go_wp2_with fail
              go_roundw
              case rel => exact ⟨j + 1, by omega, by go_num, by rw [HNJ.out, show as0.length + (arcRow bl[i] (j + 1)).length = (as0 ++ arcRow bl[i] (j + 1)).length from List.length_append.symm]; exact HK.out, HKB.out⟩
              case measure => simp [intOf]; omega)
          · have hje : ¬ (j : Int) + 1 < (bl[i].length : Int) := by omega
            have HEQ := Lib.hid (show as0 ++ arcRow bl[i] (j + 1) = as0 ++ arcRow bl[i] bl[i].length by
              rcases Nat.eq_zero_or_pos bl[i].length with h | h
              · rw [h, show j = 0 from by omega]; rfl
              · rw [show j + 1 = bl[i].length from by omega])
            go_wp2_with fail
            go_roundw
            case rel => exact ⟨i + 1, by omega, by go_num, by rw [HNX.out, ← HEQ.out]; exact hown, hB⟩
            case measure => simp [intOf]; omega
      · have hie : i = bl.length := by omega
        subst hie
        obtain ⟨xA, xc, rfl⟩ := hown.shape
        have HB1 := Lib.hid (below_then bB hB)
        have ras := hown.rd
        clear hown hB bB rbl HROW hbn
        generalize arcsL bl bl.length = al at *
        have has := ras.len_le_
        obtain ⟨wA, rfl⟩ : ∃ wA : World, wA = wr := ⟨_, rfl⟩
        go_wp2_with fail
        go_loopw [7] (fun x wr => ∃ a : Nat, a ≤ al.length ∧ x = .int .i64 a ∧ Hid (∀ a', a' < a → ∀ b, b < al.length → nestA (al.getD a' []) (al.getD b []) = false) ∧ ∃ q, wr = wA.drewN q) (fun x _ => al.length - (intOf x).toNat)
        case atStart => exact ⟨0, by omega, rfl, fun a h => absurd h (by omega), 0, rfl⟩
        case round =>
          obtain ⟨a, ha, rfl, HA, q, rfl⟩ := hrel
          by_cases hlta : a < al.length
          · go_wp2_with fail
            go_loopw [8] (fun x wr => ∃ b : Nat, b ≤ al.length ∧ x = .int .i64 b ∧ Hid (∀ b', b' < b → nestA (al.getD a []) (al.getD b' []) = false) ∧ ∃ q, wr = wA.drewN q) (fun x _ => al.length - (intOf x).toNat)
            case atStart => exact ⟨0, by omega, rfl, fun a h => absurd h (by omega), _, rfl⟩
            case round =>
              obtain ⟨b, hb, rfl, HBB, q2, rfl⟩ := hrel
              by_cases hltb : b < al.length
              · obtain ⟨xb, xo, rfl, _, hxc⟩ := ras.at_ (by omega)
                obtain ⟨ua, d0, hua⟩ := hxc a hlta
                obtain ⟨ub, d1, hub⟩ := hxc b hltb
                have ta := HTWO.out al[a] (List.getElem_mem hlta)
                have tb := HTWO.out al[b] (List.getElem_mem hltb)
                obtain ⟨aA, ac, rfl, _⟩ := id hua
                obtain ⟨bA2, bc2, rfl, _⟩ := id hub
                obtain ⟨pa, oa, rfl, _, ca⟩ := hua.at_ (by omega)
                obtain ⟨pb, ob, rfl, _, cb⟩ := hub.at_ (by omega)
                have e0 : wA.cell? ⟨pa, oa, none⟩ = some (.int .i64 al[a][0]) := ca 0 (by omega)
                have e1 := ca 1 (by omega)
                have e2 : wA.cell? ⟨pb, ob, none⟩ = some (.int .i64 al[b][0]) := cb 0 (by omega)
                have e3 := cb 1 (by omega)
                have HN := Lib.hid (show nestA (al.getD a []) (al.getD b []) = (decide (al[a][0] < al[b][0]) && decide (al[b][1] < al[a][1])) by
                  rw [getD_of hlta, getD_of hltb, nestA, getD_of (by omega), getD_of (by omega), getD_of (by omega), getD_of (by omega)])
                rw [ta] at d0
                rw [tb] at d1
                have HTA := Lib.hid ta
                have HTB := Lib.hid tb
                generalize hx0 : al[a][0] = X0 at *
                generalize hx1 : al[a][1] = X1 at *
                generalize hy0 : al[b][0] = Y0 at *
                generalize hy1 : al[b][1] = Y1 at *
                clear hx0 hx1 hy0 hy1 ca cb hxc ta tb hua hub
                by_cases h0 : X0 < Y0
                · have hd0 : decide (X0 < Y0) = true := by simpa using h0
                  by_cases h1 : Y1 < X1
                  · have hd1 : decide (Y1 < X1) = true := by simpa using h1
                    have HF := Lib.hid (show ¬ NnP p from fun h => by
                      have g := nnS_iff.1 (HNN.out.1 h) al[a] (List.getElem_mem hlta) al[b] (List.getElem_mem hltb)
                      have g2 := HN.out
                      rw [getD_of hlta, getD_of hltb, g, hd0, hd1] at g2
                      cases g2)
                    go_wp2_with fail
                    go_quiet (fail)
                    go_wp2_with fail
                    go_ret
                    exact ⟨ret_bool (by simp [HF.out]), by first | exact below_drewN HB1.out _ | exact below_drewN (below_drewN HB1.out _) _⟩
                  · have hd1 : decide (Y1 < X1) = false := by simpa using h1
                    have HAF := Lib.hid (show nestA (al.getD a []) (al.getD b []) = false by rw [HN.out, hd1, Bool.and_false])
                    go_wp2_with fail
                    go_quiet (fail)
                    go_wp2_with fail
                    go_roundw
                    case rel =>
                      refine ⟨b + 1, by omega, by go_num, fun b' h => ?_, _, rfl⟩
                      rcases Nat.lt_or_ge b' b with g | g
                      · exact HBB.out b' g
                      · obtain rfl : b' = b := by omega
                        exact HAF.out
                    case measure => simp [intOf]; omega
                · have hd0 : decide (X0 < Y0) = false := by simpa using h0
                  have HAF := Lib.hid (show nestA (al.getD a []) (al.getD b []) = false by rw [HN.out, hd0, Bool.false_and])
                  go_wp2_with fail
                  go_quiet (fail)
                  go_wp2_with fail
                  go_roundw
                  case rel =>
                    refine ⟨b + 1, by omega, by go_num, fun b' h => ?_, _, rfl⟩
                    rcases Nat.lt_or_ge b' b with g | g
                    · exact HBB.out b' g
                    · obtain rfl : b' = b := by omega
                      exact HAF.out
                  case measure => simp [intOf]; omega
              · go_wp2_with fail
                go_roundw
                case rel =>
                  refine ⟨a + 1, by omega, by go_num, fun a' h b' hb' => ?_, _, rfl⟩
                  rcases Nat.lt_or_ge a' a with g | g
                  · exact HA.out a' g b' hb'
                  · obtain rfl : a' = a := by omega
                    exact HBB.out b' (by omega)
                case measure => simp [intOf]; omega
          · have HF := Lib.hid (show NnP p from HNN.out.2 (nnS_iff.2 fun x hx y hy => by
              obtain ⟨i, hi, rfl⟩ := List.getElem_of_mem hx
              obtain ⟨k, hk, rfl⟩ := List.getElem_of_mem hy
              have := HA.out i (by omega) k hk
              rwa [getD_of hi, getD_of hk] at this))
            go_wp2_with fail
            go_ret
            exact ⟨ret_bool (by simp [HF.out]), below_drewN HB1.out _⟩
  · simp only [decide_eq_false hP] at HP0
    have HF := Lib.hid (show ¬ NnP p from fun h => hP h.1)
    clear hP
    go_enter Try.func102, Try.ntmps102
    go_wp2_with fail
    refine HP0.mono ?_; rintro e w' ⟨rfl, rfl⟩
    go_wp2_with fail
    go_ret
    exact ⟨ret_bool (by simp [HF.out]), Below.refl _ _⟩
end Go.Proofs.Ytnkkgfeegaiakaa
