/- Contracts of PromoteTableau, the reference's: returns the rows and the bool. No condition. -/
import Derived.Test.YtnkkgfeegaiakaaTabImpl
import Derived.Test.YtnkkgfeegaiakaaAppN
import Derived.Test.YtnkkgfeegaiakaaGround
import Derived.Test.YtnkkgfeegaiakaaSSMark
import Derived.Test.YtnkkgfeegaiakaaPlain21
namespace Go.Proofs.Ytnkkgfeegaiakaa
open Go.RowKit
theorem off_two' (a b : List Int) : off [a, b] 2 = a.length + b.length := by
  rw [off_succ, off_succ, off_zero, Nat.zero_add]; rfl
theorem upA_len (a b : List Int) : (upA a b).length = a.length := by unfold upA; rw [List.length_set, shA_len]
theorem loB_len (a b : List Int) : (loB a b).length = b.length := by unfold loB; rw [List.length_set, shB_len]
theorem proR_off (t : List (List Int)) : off (proR t).1 (proR t).1.length ≤ 64 := by
  unfold proR
  by_cases h : TabP t
  · rw [if_pos h]
    have h8 := h.2.2.1
    have hl := h.2.1
    split
    · exact Nat.zero_le _
    · show off [_, _] 2 ≤ 64
      rw [off_two', dec_len, dec_len, upA_len, loB_len]
      omega
  · rw [if_neg h]; exact Nat.zero_le _
theorem OwI.shape_pos {w : World} {base : Nat} {v : Value} {xs : List Int} (h : OwI w base v xs) (h0 : 0 < xs.length) : ∃ g cap, v = .slice (some ⟨g, 0, none⟩) xs.length cap ∧ base ≤ g ∧ g < w.heap.size := by
  rcases h.shape with ⟨_, e⟩ | ⟨g, cap, e, h1, h2⟩
  · rw [e] at h0; simp at h0
  · exact ⟨g, cap, e, h1, h2⟩
set_option maxRecDepth 100000 in
set_option maxHeartbeats 2000000 in
theorem specPromoteTableau_any (v : Value) (t : List (List Int)) (w : World) (hv : RdSS w v t) :
    Calls Try.prog 27 #[v] w (RetSSB w (proR t)) := by
  have hv0 := hv
  have HP0 := specIsTableau_any _ _ _ hv0
  obtain ⟨A, c, rfl, hc, hl, _⟩ := hv
  by_cases hT : TabP t
  · simp only [decide_eq_true hT] at HP0
    obtain ⟨b, o, rfl, hb, A0, c0, A1, c1, d0, d1, r0, r1⟩ := hv0.two hT.1
    have hi0 : (0 : Int) < (t.length : Int) := by have := hT.1; omega
    have hi1 : (1 : Int) < (t.length : Int) := by have := hT.1; omega
    have HV := Lib.hid (show proR t = (if (rw_ t 0).length = 0 then ([[], []], true) else ([dec (upA (rw_ t 0) (rw_ t 1)) (rw_ t 0).length, dec (loB (rw_ t 0) (rw_ t 1)) (rw_ t 0).length], true)) by unfold proR; rw [if_pos hT])
    have HT := Lib.hid hT.2
    have h8 : (rw_ t 0).length ≤ 8 := hT.2.2.1
    have hab : (rw_ t 1).length = (rw_ t 0).length := hT.2.1.symm
    clear hT
    generalize rw_ t 0 = a at *
    generalize rw_ t 1 = bb at *
    rw [hab] at d1 r1
    have HAB := Lib.hid hab
    clear hab
    rcases Nat.eq_zero_or_pos a.length with h0 | h0
    · have HV2 := Lib.hid (show proR t = ([[], []], true) by rw [HV.out, if_pos h0])
      have f0 : ((a.length : Int) == 0) = true := beq_iff_eq.2 (by omega)
      have HZ := Lib.hid h0
      clear h0
      go_enter Try.func27, Try.ntmps27
      go_wp2_with fail
      refine HP0.mono ?_; rintro e w' ⟨rfl, q, rfl⟩
      go_wp2_with fail
      have hz1 : ((w.drewN q).alloc (.cells #[] 3)).heap.size = w.heap.size + 1 := by simp
      have ownA := OwI.empty_ (w.drewN q) w.heap.size (Nat.le_refl _)
      have ownB := OwI.empty_ ((w.drewN q).alloc (.cells #[] 3)) w.heap.size (by omega)
      have ownA := OwI.below ownA ((Below.refl _ _).alloc (Nat.le_refl _) (.cells #[] 3))
      have hB0 : Below w.heap.size w (((w.drewN q).alloc (.cells #[] 3)).alloc (.cells #[] 3)) := ((below_draws w q).alloc (Nat.le_refl _) _).alloc (by omega) _
      have ap0 : Apart (.slice (some ⟨(w.drewN q).heap.size, 0, none⟩) 0 0) (.slice (some ⟨((w.drewN q).alloc (.cells #[] 3)).heap.size, 0, none⟩) 0 0) := fun g h1 h2 => by
        simp [Value.ownBlock] at h1 h2; omega
      have own2 := OwSS.lit2 ownA ownB ap0 hB0.size
      have hz2 : (((w.drewN q).alloc (.cells #[] 3)).alloc (.cells #[] 3)).heap.size = w.heap.size + 1 + 1 := by simp
      rw [hz2] at own2
      rw [hz1] at own2
      go_ret2
      exact RetSSB.mk HV2.out own2 (hB0.alloc hB0.size _)
    · have HV2 := Lib.hid (show proR t = ([dec (upA a bb) a.length, dec (loB a bb) a.length], true) by rw [HV.out, if_neg (by omega)])
      have f0 : ((a.length : Int) == 0) = false := beq_eq_false_iff_ne.2 (by omega)
      obtain ⟨hbA, hbB⟩ := HT.out.bd
      have HBA := Lib.hid hbA
      have HBB := Lib.hid hbB
      clear hbA hbB
      go_enter Try.func27, Try.ntmps27
      go_wp2_with fail
      refine HP0.mono ?_; rintro e w' ⟨rfl, q, rfl⟩
      have own0 := OwI.empty_ (w.drewN q) w.heap.size (Nat.le_refl _)
      have B0 : Below w.heap.size w ((w.drewN q).alloc (.cells #[] 3)) := (below_draws w q).alloc (Nat.le_refl _) _
      have hrd0 := r0.below B0
      have hs0 := B0.size
      have e0 := (B0.cell (p := ⟨b, o, none⟩) hb).trans d0
      have hl0 : ([] : List Int).length + a.length ≤ 1099511627776 := by simp; omega
      go_wp2_with (at_builtin; refine wpList_appRow (f := Value.int .i64) _ rfl _ _ 38 rfl w.heap.size 3 (.int .i64 0) 8 Try.underlying38 info_int rfl (by omega) _ [] a rfl own0 A0 c0 rfl hrd0 (fun _ => rfl) hl0 hs0 ?_)
      intro va w1 ownA g1 a1
      have B1 := below_of_own B0 g1 hs0 (fun g hg => (own0.lt g hg).1)
      have ownA : OwI w1 w.heap.size va a := ownA
      have hs1 := B1.size
      clear own0 g1 a1 B0 hrd0 e0 hs0
      have ownE := OwI.empty_ w1 w1.heap.size (Nat.le_refl _)
      have Bx : Below w1.heap.size w1 (w1.alloc (.cells #[] 3)) := (Below.refl _ _).alloc (Nat.le_refl _) _
      have B2 := below_then B1 Bx
      have hrd1 := r1.below B2
      have e1 := (B2.cell (p := ⟨b, o + 1, none⟩) hb).trans d1
      have hl1 : ([] : List Int).length + bb.length ≤ 1099511627776 := by rw [HAB.out]; simp; omega
      have hsx := Bx.size
      have hrd1' : RdR (Value.int .i64) (w1.alloc (.cells #[] 3)) (.slice A1 bb.length c1) bb := by rw [HAB.out]; exact hrd1
      rw [← HAB.out] at e1
      clear hrd1
      go_wp2_with (at_builtin; refine wpList_appRow (f := Value.int .i64) _ rfl _ _ 38 rfl w1.heap.size 3 (.int .i64 0) 8 Try.underlying38 info_int rfl (by omega) _ [] bb rfl ownE A1 c1 rfl hrd1' (fun _ => rfl) hl1 hsx ?_)
      intro vb w2 ownB g2 a2
      have ownB : OwI w2 w1.heap.size vb bb := ownB
      have b2 := below_of_own Bx g2 hsx (fun g hg => (ownE.lt g hg).1)
      have B3 := below_then B1 b2
      have hap : Apart va vb := fun g h1 h2 => by
        have h3 := (ownB.lt g h2).1
        have h4 := (ownA.lt g h1).2
        omega
      have ownA := ownA.below b2
      have ownB := ownB.mono hs1
      obtain ⟨ga, capA, rfl, hga, _⟩ := ownA.shape_pos h0
      obtain ⟨gb, capB, rfl, hgb, _⟩ := ownB.shape_pos (by rw [HAB.out]; exact h0)
      rw [HAB.out] at ownB hap
      have hne : ga ≠ gb := fun e => hap ga rfl (by rw [e]; rfl)
      have hnb : gb ≠ ga := fun e => hne e.symm
      clear ownE g2 a2 Bx B2 hrd1' e1 hsx b2 d0 d1 r0 r1 hap hb B1
      rw [HAB.out]
      go_wp2_with fail
      go_loopw [7] (fun i wr => ∃ k : Nat, k < a.length ∧ i = .int .i64 (k : Int) ∧ OwI wr w.heap.size (.slice (some ⟨ga, 0, none⟩) a.length capA) (shA a k) ∧ OwI wr w.heap.size (.slice (some ⟨gb, 0, none⟩) a.length capB) bb ∧ Hid (∀ i, i < k → slid a bb i = true) ∧ Below w.heap.size w wr) (fun i _ => a.length - (intOf i).toNat)
      case atStart => exact ⟨0, h0, rfl, ownA, ownB, fun i hi => absurd hi (by omega), B3⟩
      case round =>
        clear ownA ownB B3
        obtain ⟨k, hk, rfl, hA, hB, HS, hBl⟩ := hrel
        have hla := shA_len a k
        have HBK := Lib.hid (shA_bd HBA.out k)
        have b1 := hB.cellAt k (by rw [HAB.out]; exact hk)
        have a0 := hA.cellAt k (by omega)
        have a0f := hA.frozenAt k
        have HAP : Hid (Apart (.slice (some ⟨gb, 0, none⟩) a.length capB) (.slice (some ⟨ga, 0, none⟩) a.length capA)) := fun g h1 h2 => by
          injection h1 with h1; injection h2 with h2; exact hne (h2.trans h1.symm)
        have hSv : slid a bb k = (decide (k + 1 < a.length) && decide ((shA a k).getD (k + 1) 0 < bb[k]'(by rw [HAB.out]; exact hk))) := by unfold slid; rw [getD_of (show k < bb.length by rw [HAB.out]; exact hk)]
        have HSV := Lib.hid hSv
        clear hSv
        by_cases hgo : k + 1 < a.length ∧ (shA a k).getD (k + 1) 0 < bb[k]'(by rw [HAB.out]; exact hk)
        · obtain ⟨h1, hX⟩ := hgo
          have e4 : ((k : Int) + 1) < (a.length : Int) := by omega
          have a1 := hA.cellAt (k + 1) (by omega)
          have HSS := Lib.hid (shA_succ a k)
          rw [getD_of (show k + 1 < (shA a k).length by omega)] at hX HSS
          have HSK : Hid (slid a bb k = true) := by
            show slid a bb k = true
            rw [HSV.out, decide_eq_true h1, getD_of (show k + 1 < (shA a k).length by omega), decide_eq_true hX]; rfl
          have e1 : IntKind.i64.wrap ((k : Int) + 1) = (k : Int) + 1 := IntWalk.i64_in _ (by omega)
          have e2 : ((k : Int) + 1).toNat = k + 1 := by omega
          have e3 : (0 : Int) ≤ (k : Int) + 1 := by omega
          go_wp2_with fail
          go_quiet (fail)
          clear e1 e2 e3
          have hA := hA.drewN nq
          have hB := hB.drewN nq
          have hBl := below_drewN hBl nq
          generalize World.drewN wr nq = wd at *
          have hs5 := hA.stored k (shA a k)[k + 1]
          have hB5 := Lib.hid (OwR.other (u := .slice (some ⟨ga, 0, none⟩) a.length capA) (OwI_is.1 hB) hs5.2 HAP.out)
          have HS5 := Lib.hid hs5.1
          have a0 := hA.cellAt k (by omega)
          have a0f := hA.frozenAt k
          have a1 := hA.cellAt (k + 1) (by omega)
          clear hs5
          go_wp2_with fail
          go_roundw
          case rel => exact ⟨k + 1, h1, by go_num, by rw [HSS.out]; exact HS5.out, hB5.out, (fun i hi => by
            rcases Nat.lt_or_ge i k with q | q
            · exact HS.out i q
            · rw [show i = k by omega]; exact HSK.out), hBl.setCell hga _⟩
          case measure => simp [intOf]; omega
        · have HSK : Hid (slid a bb k = false) := by
            show slid a bb k = false
            rw [HSV.out]
            by_cases h1 : k + 1 < a.length
            · rw [decide_eq_false (fun h => hgo ⟨h1, h⟩), Bool.and_false]
            · rw [decide_eq_false h1, Bool.false_and]
          have HK := Lib.hid (stopA_is hk HS.out HSK.out)
          have HU := Lib.hid (show upA a bb = (shA a k).set k (bb[k]'(by rw [HAB.out]; exact hk)) by unfold upA; rw [HK.out, getD_of (show k < bb.length by rw [HAB.out]; exact hk)])
          have HL := Lib.hid (show loB a bb = (shB bb k (a.length - 1 - k)).set (a.length - 1) (2 * (a.length : Int) + 1) by unfold loB; rw [HK.out])
          have HBU : Hid (Bd (upA a bb)) := by
            show Bd _
            rw [HU.out]
            exact HBK.out.set _ (HBB.out.at_ (by rw [HAB.out]; exact hk)).1 (HBB.out.at_ (by rw [HAB.out]; exact hk)).2
          have HBLo : Hid (Bd (loB a bb)) := by
            show Bd _
            rw [HL.out]
            exact (shB_bd HBB.out _ _).set _ (by omega) (by omega)
          have hcase : (k + 1 < a.length ∧ ∃ h : k + 1 < (shA a k).length, ¬ (shA a k)[k + 1] < bb[k]'(by rw [HAB.out]; exact hk)) ∨ ¬ k + 1 < a.length := by
            by_cases h1 : k + 1 < a.length
            · have h2 : k + 1 < (shA a k).length := by omega
              exact .inl ⟨h1, h2, fun h => hgo ⟨h1, by rw [getD_of h2]; exact h⟩⟩
            · exact .inr h1
          clear hgo
          rcases hcase with ⟨h1, h2, hX⟩ | h1
          · have e4 : ((k : Int) + 1) < (a.length : Int) := by omega
            have a1 := hA.cellAt (k + 1) h2
            have e1 : IntKind.i64.wrap ((k : Int) + 1) = (k : Int) + 1 := IntWalk.i64_in _ (by omega)
            have e2 : ((k : Int) + 1).toNat = k + 1 := by omega
            have e3 : (0 : Int) ≤ (k : Int) + 1 := by omega
            go_wp2_with fail
            go_quiet (fail)
            clear e1 e2 e3 e4 a1
            have hA := hA.drewN nq
            have hB := hB.drewN nq
            have hBl := below_drewN hBl nq
            generalize World.drewN wr nq = wd at *
            have b1 := hB.cellAt k (by rw [HAB.out]; exact hk)
            have a0 := hA.cellAt k (by omega)
            have a0f := hA.frozenAt k
            have hs5 := hA.stored k (bb[k]'(by rw [HAB.out]; exact hk))
            have hA5 : OwI (wd.setCell ⟨ga, k, none⟩ (.int .i64 (bb[k]'(by rw [HAB.out]; exact hk)))) w.heap.size (.slice (some ⟨ga, 0, none⟩) a.length capA) (upA a bb) := by rw [HU.out]; exact hs5.1
            have hB5 : OwI (wd.setCell ⟨ga, k, none⟩ (.int .i64 (bb[k]'(by rw [HAB.out]; exact hk)))) w.heap.size (.slice (some ⟨gb, 0, none⟩) a.length capB) bb := OwR.other (u := .slice (some ⟨ga, 0, none⟩) a.length capA) (OwI_is.1 hB) hs5.2 HAP.out
            have hBl5 : Below w.heap.size w (wd.setCell ⟨ga, k, none⟩ (.int .i64 (bb[k]'(by rw [HAB.out]; exact hk)))) := hBl.setCell hga _
            clear hs5 hA hB hBl
            go_wp2_with fail
            generalize wd.setCell ⟨ga, k, none⟩ (.int .i64 (bb[k]'(by rw [HAB.out]; exact hk))) = w5 at hA5 hB5 hBl5 ⊢
            clear b1 a0 a0f
            go_loopw [7] (fun i wr => ∃ x : Nat, k + x < a.length ∧ i = .int .i64 ((k + x : Nat) : Int) ∧ OwI wr w.heap.size (.slice (some ⟨ga, 0, none⟩) a.length capA) (upA a bb) ∧ OwI wr w.heap.size (.slice (some ⟨gb, 0, none⟩) a.length capB) (shB bb k x) ∧ Below w.heap.size w wr) (fun i _ => a.length - (intOf i).toNat)
            case atStart => exact ⟨0, by omega, rfl, hA5, hB5, hBl5⟩
            case round =>
              clear hA5 hB5 hBl5
              obtain ⟨x, hx, rfl, hA, hB, hBl⟩ := hrel
              have hlb := shB_len bb k x
              rw [HAB.out] at hlb
              have hBB2 := Lib.hid (shB_bd HBB.out k x)
              obtain ⟨z, hz⟩ : ∃ z, z = k + x := ⟨_, rfl⟩
              have HZ := Lib.hid hz
              rw [← hz] at hx ⊢
              clear hz
              by_cases h2 : z + 1 < a.length
              · have e4 : ((z : Int) + 1) < (a.length : Int) := by omega
                have q1 := hB.cellAt (z + 1) (by omega)
                have q0 := hB.cellAt z (by omega)
                have q0f := hB.frozenAt z
                have hs5 := hB.stored z ((shB bb k x)[z + 1]'(by omega))
                have HSS := Lib.hid (show shB bb k (x + 1) = (shB bb k x).set z ((shB bb k x)[z + 1]'(by omega)) by rw [shB_succ, ← HZ.out, getD_of (show z + 1 < (shB bb k x).length by omega)])
                have HAP2 : Apart (.slice (some ⟨ga, 0, none⟩) a.length capA) (.slice (some ⟨gb, 0, none⟩) a.length capB) := HAP.out.symm
                have HA5 := Lib.hid (OwR.other (u := .slice (some ⟨gb, 0, none⟩) a.length capB) (OwI_is.1 hA) hs5.2 HAP2)
                have HB5 := Lib.hid hs5.1
                clear hs5 HAP2
                go_wp2_with fail
                go_roundw
                case rel => exact ⟨x + 1, by have := HZ.out; omega, by have := HZ.out; rw [show k + (x + 1) = z + 1 by omega]; go_num, HA5.out, by rw [HSS.out]; exact HB5.out, hBl.setCell hgb _⟩
                case measure => simp [intOf]; omega
              · have e4 : ¬ ((z : Int) + 1) < (a.length : Int) := by omega
                have hze : z = a.length - 1 := by omega
                have HLL := Lib.hid (show loB a bb = (shB bb k x).set z (2 * (a.length : Int) + 1) by rw [HL.out, show a.length - 1 - k = x by have := HZ.out; omega, hze])
                have q0 := hB.cellAt z (by omega)
                have q0f := hB.frozenAt z
                have hs5 := hB.stored z (2 * (a.length : Int) + 1)
                have HAP2 : Apart (.slice (some ⟨ga, 0, none⟩) a.length capA) (.slice (some ⟨gb, 0, none⟩) a.length capB) := HAP.out.symm
                have hA5 : OwI (wr.setCell ⟨gb, z, none⟩ (.int .i64 (2 * (a.length : Int) + 1))) w.heap.size (.slice (some ⟨ga, 0, none⟩) a.length capA) (upA a bb) := OwR.other (u := .slice (some ⟨gb, 0, none⟩) a.length capB) (OwI_is.1 hA) hs5.2 HAP2
                have hB5 : OwI (wr.setCell ⟨gb, z, none⟩ (.int .i64 (2 * (a.length : Int) + 1))) w.heap.size (.slice (some ⟨gb, 0, none⟩) a.length capB) (loB a bb) := by rw [HLL.out]; exact hs5.1
                have hBl5 : Below w.heap.size w (wr.setCell ⟨gb, z, none⟩ (.int .i64 (2 * (a.length : Int) + 1))) := hBl.setCell hgb _
                clear hs5 HAP2 hA hB hBl hze
                go_wp2_with fail
                generalize wr.setCell ⟨gb, z, none⟩ (.int .i64 (2 * (a.length : Int) + 1)) = w6 at hA5 hB5 hBl5 ⊢
                clear q0 q0f
                go_loopw [8] (fun i wr => ∃ y : Nat, y ≤ a.length ∧ i = .int .i64 (y : Int) ∧ OwI wr w.heap.size (.slice (some ⟨ga, 0, none⟩) a.length capA) (dec (upA a bb) y) ∧ OwI wr w.heap.size (.slice (some ⟨gb, 0, none⟩) a.length capB) (dec (loB a bb) y) ∧ Below w.heap.size w wr) (fun i _ => a.length - (intOf i).toNat)
                case atStart => exact ⟨0, by omega, rfl, by rw [dec_zero]; exact hA5, by rw [dec_zero]; exact hB5, hBl5⟩
                case round =>
                  clear hA5 hB5 hBl5
                  obtain ⟨y, hy, rfl, hA, hB, hBl⟩ := hrel
                  have hlu := upA_len a bb
                  have hll := loB_len a bb
                  rw [HAB.out] at hll
                  have hlu2 := dec_len (upA a bb) y
                  have hll2 := dec_len (loB a bb) y
                  by_cases h3 : y < a.length
                  · have p0 := hA.cellAt y (by omega)
                    have p0f := hA.frozenAt y
                    have HDU := Lib.hid (dec_succ (l := upA a bb) (k := y) (by omega))
                    have HDL := Lib.hid (dec_succ (l := loB a bb) (k := y) (by omega))
                    rw [dec_get (by omega)] at p0
                    obtain ⟨hu0, hu1⟩ := HBU.out.at_ (k := y) (by omega)
                    obtain ⟨hv0, hv1⟩ := HBLo.out.at_ (k := y) (by omega)
                    obtain ⟨U, hU⟩ : ∃ U, U = (upA a bb)[y]'(by omega) := ⟨_, rfl⟩
                    obtain ⟨V, hV⟩ : ∃ V, V = (loB a bb)[y]'(by omega) := ⟨_, rfl⟩
                    rw [← hU] at p0 hu0 hu1 HDU
                    rw [← hV] at hv0 hv1 HDL
                    have hs5 := hA.stored y (U - 1)
                    have hB5 := OwR.other (u := .slice (some ⟨ga, 0, none⟩) a.length capA) (OwI_is.1 hB) hs5.2 HAP.out
                    have p1 := hB5.cellAt y (by omega)
                    rw [dec_get (by omega), ← hV] at p1
                    have p1f := hB5.frozenAt y
                    have hs6 := hB5.stored y (V - 1)
                    have HAP2 : Apart (.slice (some ⟨ga, 0, none⟩) a.length capA) (.slice (some ⟨gb, 0, none⟩) a.length capB) := HAP.out.symm
                    have HA6 := Lib.hid (OwR.other (u := .slice (some ⟨gb, 0, none⟩) a.length capB) (OwI_is.1 hs5.1) hs6.2 HAP2)
                    have HB6 := Lib.hid hs6.1
                    clear hs5 hs6 HAP2 hB5 hU hV
                    go_wp2_with fail
                    go_roundw
                    case rel => exact ⟨y + 1, by omega, by go_num, by rw [HDU.out]; exact HA6.out, by rw [HDL.out]; exact HB6.out, (hBl.setCell hga _).setCell hgb _⟩
                    case measure => simp [intOf]; omega
                  · have hye : y = a.length := by omega
                    subst hye
                    go_wp2_with fail
                    go_ret2
                    exact RetSSB.mk HV2.out (OwSS.lit2 hA hB HAP.out.symm hBl.size) (hBl.alloc hBl.size _)
          · have e4 : ¬ ((k : Int) + 1) < (a.length : Int) := by omega
            have e5 : decide ((k : Int) + 1 < (a.length : Int)) = false := decide_eq_false e4
            have e1 : IntKind.i64.wrap ((k : Int) + 1) = (k : Int) + 1 := IntWalk.i64_in _ (by omega)
            have e2 : ((k : Int) + 1).toNat = k + 1 := by omega
            have e3 : (0 : Int) ≤ (k : Int) + 1 := by omega
            go_wp2_with fail
            go_quiet (fail)
            clear e1 e2 e3 e4 e5
            have hA := hA.drewN nq
            have hB := hB.drewN nq
            have hBl := below_drewN hBl nq
            generalize World.drewN wr nq = wd at *
            have b1 := hB.cellAt k (by rw [HAB.out]; exact hk)
            have a0 := hA.cellAt k (by omega)
            have a0f := hA.frozenAt k
            have hs5 := hA.stored k (bb[k]'(by rw [HAB.out]; exact hk))
            have hA5 : OwI (wd.setCell ⟨ga, k, none⟩ (.int .i64 (bb[k]'(by rw [HAB.out]; exact hk)))) w.heap.size (.slice (some ⟨ga, 0, none⟩) a.length capA) (upA a bb) := by rw [HU.out]; exact hs5.1
            have hB5 : OwI (wd.setCell ⟨ga, k, none⟩ (.int .i64 (bb[k]'(by rw [HAB.out]; exact hk)))) w.heap.size (.slice (some ⟨gb, 0, none⟩) a.length capB) bb := OwR.other (u := .slice (some ⟨ga, 0, none⟩) a.length capA) (OwI_is.1 hB) hs5.2 HAP.out
            have hBl5 : Below w.heap.size w (wd.setCell ⟨ga, k, none⟩ (.int .i64 (bb[k]'(by rw [HAB.out]; exact hk)))) := hBl.setCell hga _
            clear hs5 hA hB hBl
            go_wp2_with fail
            generalize wd.setCell ⟨ga, k, none⟩ (.int .i64 (bb[k]'(by rw [HAB.out]; exact hk))) = w5 at hA5 hB5 hBl5 ⊢
            clear b1 a0 a0f
            go_loopw [7] (fun i wr => ∃ x : Nat, k + x < a.length ∧ i = .int .i64 ((k + x : Nat) : Int) ∧ OwI wr w.heap.size (.slice (some ⟨ga, 0, none⟩) a.length capA) (upA a bb) ∧ OwI wr w.heap.size (.slice (some ⟨gb, 0, none⟩) a.length capB) (shB bb k x) ∧ Below w.heap.size w wr) (fun i _ => a.length - (intOf i).toNat)
            case atStart => exact ⟨0, by omega, rfl, hA5, hB5, hBl5⟩
            case round =>
              clear hA5 hB5 hBl5
              obtain ⟨x, hx, rfl, hA, hB, hBl⟩ := hrel
              have hlb := shB_len bb k x
              rw [HAB.out] at hlb
              have hBB2 := Lib.hid (shB_bd HBB.out k x)
              obtain ⟨z, hz⟩ : ∃ z, z = k + x := ⟨_, rfl⟩
              have HZ := Lib.hid hz
              rw [← hz] at hx ⊢
              clear hz
              by_cases h2 : z + 1 < a.length
              · have e4 : ((z : Int) + 1) < (a.length : Int) := by omega
                have q1 := hB.cellAt (z + 1) (by omega)
                have q0 := hB.cellAt z (by omega)
                have q0f := hB.frozenAt z
                have hs5 := hB.stored z ((shB bb k x)[z + 1]'(by omega))
                have HSS := Lib.hid (show shB bb k (x + 1) = (shB bb k x).set z ((shB bb k x)[z + 1]'(by omega)) by rw [shB_succ, ← HZ.out, getD_of (show z + 1 < (shB bb k x).length by omega)])
                have HAP2 : Apart (.slice (some ⟨ga, 0, none⟩) a.length capA) (.slice (some ⟨gb, 0, none⟩) a.length capB) := HAP.out.symm
                have HA5 := Lib.hid (OwR.other (u := .slice (some ⟨gb, 0, none⟩) a.length capB) (OwI_is.1 hA) hs5.2 HAP2)
                have HB5 := Lib.hid hs5.1
                clear hs5 HAP2
                go_wp2_with fail
                go_roundw
                case rel => exact ⟨x + 1, by have := HZ.out; omega, by have := HZ.out; rw [show k + (x + 1) = z + 1 by omega]; go_num, HA5.out, by rw [HSS.out]; exact HB5.out, hBl.setCell hgb _⟩
                case measure => simp [intOf]; omega
              · have e4 : ¬ ((z : Int) + 1) < (a.length : Int) := by omega
                have hze : z = a.length - 1 := by omega
                have HLL := Lib.hid (show loB a bb = (shB bb k x).set z (2 * (a.length : Int) + 1) by rw [HL.out, show a.length - 1 - k = x by have := HZ.out; omega, hze])
                have q0 := hB.cellAt z (by omega)
                have q0f := hB.frozenAt z
                have hs5 := hB.stored z (2 * (a.length : Int) + 1)
                have HAP2 : Apart (.slice (some ⟨ga, 0, none⟩) a.length capA) (.slice (some ⟨gb, 0, none⟩) a.length capB) := HAP.out.symm
                have hA5 : OwI (wr.setCell ⟨gb, z, none⟩ (.int .i64 (2 * (a.length : Int) + 1))) w.heap.size (.slice (some ⟨ga, 0, none⟩) a.length capA) (upA a bb) := OwR.other (u := .slice (some ⟨gb, 0, none⟩) a.length capB) (OwI_is.1 hA) hs5.2 HAP2
                have hB5 : OwI (wr.setCell ⟨gb, z, none⟩ (.int .i64 (2 * (a.length : Int) + 1))) w.heap.size (.slice (some ⟨gb, 0, none⟩) a.length capB) (loB a bb) := by rw [HLL.out]; exact hs5.1
                have hBl5 : Below w.heap.size w (wr.setCell ⟨gb, z, none⟩ (.int .i64 (2 * (a.length : Int) + 1))) := hBl.setCell hgb _
                clear hs5 HAP2 hA hB hBl hze
                go_wp2_with fail
                generalize wr.setCell ⟨gb, z, none⟩ (.int .i64 (2 * (a.length : Int) + 1)) = w6 at hA5 hB5 hBl5 ⊢
                clear q0 q0f
                go_loopw [8] (fun i wr => ∃ y : Nat, y ≤ a.length ∧ i = .int .i64 (y : Int) ∧ OwI wr w.heap.size (.slice (some ⟨ga, 0, none⟩) a.length capA) (dec (upA a bb) y) ∧ OwI wr w.heap.size (.slice (some ⟨gb, 0, none⟩) a.length capB) (dec (loB a bb) y) ∧ Below w.heap.size w wr) (fun i _ => a.length - (intOf i).toNat)
                case atStart => exact ⟨0, by omega, rfl, by rw [dec_zero]; exact hA5, by rw [dec_zero]; exact hB5, hBl5⟩
                case round =>
                  clear hA5 hB5 hBl5
                  obtain ⟨y, hy, rfl, hA, hB, hBl⟩ := hrel
                  have hlu := upA_len a bb
                  have hll := loB_len a bb
                  rw [HAB.out] at hll
                  have hlu2 := dec_len (upA a bb) y
                  have hll2 := dec_len (loB a bb) y
                  by_cases h3 : y < a.length
                  · have p0 := hA.cellAt y (by omega)
                    have p0f := hA.frozenAt y
                    have HDU := Lib.hid (dec_succ (l := upA a bb) (k := y) (by omega))
                    have HDL := Lib.hid (dec_succ (l := loB a bb) (k := y) (by omega))
                    rw [dec_get (by omega)] at p0
                    obtain ⟨hu0, hu1⟩ := HBU.out.at_ (k := y) (by omega)
                    obtain ⟨hv0, hv1⟩ := HBLo.out.at_ (k := y) (by omega)
                    obtain ⟨U, hU⟩ : ∃ U, U = (upA a bb)[y]'(by omega) := ⟨_, rfl⟩
                    obtain ⟨V, hV⟩ : ∃ V, V = (loB a bb)[y]'(by omega) := ⟨_, rfl⟩
                    rw [← hU] at p0 hu0 hu1 HDU
                    rw [← hV] at hv0 hv1 HDL
                    have hs5 := hA.stored y (U - 1)
                    have hB5 := OwR.other (u := .slice (some ⟨ga, 0, none⟩) a.length capA) (OwI_is.1 hB) hs5.2 HAP.out
                    have p1 := hB5.cellAt y (by omega)
                    rw [dec_get (by omega), ← hV] at p1
                    have p1f := hB5.frozenAt y
                    have hs6 := hB5.stored y (V - 1)
                    have HAP2 : Apart (.slice (some ⟨ga, 0, none⟩) a.length capA) (.slice (some ⟨gb, 0, none⟩) a.length capB) := HAP.out.symm
                    have HA6 := Lib.hid (OwR.other (u := .slice (some ⟨gb, 0, none⟩) a.length capB) (OwI_is.1 hs5.1) hs6.2 HAP2)
                    have HB6 := Lib.hid hs6.1
                    clear hs5 hs6 HAP2 hB5 hU hV
                    go_wp2_with fail
                    go_roundw
                    case rel => exact ⟨y + 1, by omega, by go_num, by rw [HDU.out]; exact HA6.out, by rw [HDL.out]; exact HB6.out, (hBl.setCell hga _).setCell hgb _⟩
                    case measure => simp [intOf]; omega
                  · have hye : y = a.length := by omega
                    subst hye
                    go_wp2_with fail
                    go_ret2
                    exact RetSSB.mk HV2.out (OwSS.lit2 hA hB HAP.out.symm hBl.size) (hBl.alloc hBl.size _)
  · simp only [decide_eq_false hT] at HP0
    have HV := Lib.hid (show proR t = ([], false) by unfold proR; rw [if_neg hT])
    clear hT
    go_enter Try.func27, Try.ntmps27
    go_wp2_with fail
    refine HP0.mono ?_; rintro e w' ⟨rfl, q, rfl⟩
    go_wp2_with fail
    go_ret2
    exact RetSSB.mk HV.out (OwSS.empty2 (w.drewN q) w.heap.size (Nat.le_refl _)) ((below_draws w q).alloc (Nat.le_refl _) _)
end Go.Proofs.Ytnkkgfeegaiakaa
