/- Contract of the program's PromoteTableau: returns the rows and the bool. No condition. -/
import Derived.Test.YtnkkgfeegaiakaaTabPromo
namespace Go.Proofs.Ytnkkgfeegaiakaa
open Go.RowKit
/-- two rows of an owned slice of slices, to be written in place -/
theorem OwSS.two_rows {w : World} {base top g c : Nat} {X Y : List Int} (h : OwSS w base top (.slice (some ⟨g, 0, none⟩) 2 c) [X, Y]) (hx : 0 < X.length) (hy : 0 < Y.length) :
    ∃ g0 c0 g1 c1, w.cell? ⟨g, 0, none⟩ = some (.slice (some ⟨g0, 0, none⟩) X.length c0) ∧ w.cell? ⟨g, 1, none⟩ = some (.slice (some ⟨g1, 0, none⟩) Y.length c1) ∧
      OwI w base (.slice (some ⟨g0, 0, none⟩) X.length c0) X ∧ OwI w base (.slice (some ⟨g1, 0, none⟩) Y.length c1) Y ∧ base ≤ g0 ∧ base ≤ g1 ∧ g ≠ g0 ∧ g ≠ g1 ∧ g < w.heap.size ∧
      (∀ k x, OwSS (w.setCell ⟨g0, k, none⟩ (.int .i64 x)) base top (.slice (some ⟨g, 0, none⟩) 2 c) [X.set k x, Y]) ∧
      (∀ k x, OwSS (w.setCell ⟨g1, k, none⟩ (.int .i64 x)) base top (.slice (some ⟨g, 0, none⟩) 2 c) [X, Y.set k x]) := by
  have hg := (h.lt g rfl).2
  obtain ⟨u0, hc0, ho0, hk0⟩ := h.row_at (j := 0) (by simp)
  obtain ⟨u1, hc1, ho1, hk1⟩ := h.row_at (j := 1) (by simp)
  have ho0 : OwI w base u0 X := ho0
  have ho1 : OwI w base u1 Y := ho1
  obtain ⟨g0, c0, rfl, hb0, _⟩ := ho0.shape_pos hx
  obtain ⟨g1, c1, rfl, hb1, _⟩ := ho1.shape_pos hy
  obtain ⟨V, hv, _⟩ := h
  have n0 : g ≠ g0 := fun e => OwR.apart_of_type (e := 3) (e' := 38) ho0 hv (by decide) g0 rfl (by rw [e]; rfl)
  have n1 : g ≠ g1 := fun e => OwR.apart_of_type (e := 3) (e' := 38) ho1 hv (by decide) g1 rfl (by rw [e]; rfl)
  refine ⟨g0, c0, g1, c1, hc0, hc1, ho0, ho1, hb0, hb1, n0, n1, hg, fun k x => ?_, fun k x => ?_⟩
  · have hs := ho0.stored k x
    exact (hk0 _ (X.set k x) hs.1 hs.2).1
  · have hs := ho1.stored k x
    exact (hk1 _ (Y.set k x) hs.1 hs.2).1
theorem two_list {t : List (List Int)} (h : t.length = 2) : t = [rw_ t 0, rw_ t 1] := by
  match t, h with
  | [x, y], _ => rfl
/-- where the hole stands: in the upper row -/
def Ph0 (a b : List Int) (k : Nat) (X Y : List Int) : Prop := X = shA a k ∧ Y = b ∧ ∀ i, i < k → slid a b i = true
/-- in the lower row -/
def Ph1 (a b : List Int) (k : Nat) (X Y : List Int) : Prop := X = upA a b ∧ ∃ x, k = stopA a b + x ∧ Y = shB b (stopA a b) x
set_option maxRecDepth 100000 in
set_option maxHeartbeats 2000000 in
theorem implPromoteTableau_any (v : Value) (t : List (List Int)) (w : World) (hv : RdSS w v t) :
    Calls Try.prog 26 #[v] w (RetSSB w (proR t)) := by
  have hv0 := hv
  have HP0 := implIsTableau_any _ _ _ hv0
  obtain ⟨A, c, rfl, hc, hl, _⟩ := hv
  by_cases hT : TabP t
  · simp only [decide_eq_true hT] at HP0
    have hi0 : (0 : Int) < (t.length : Int) := by have := hT.1; omega
    have hi1 : (1 : Int) < (t.length : Int) := by have := hT.1; omega
    have HV := Lib.hid (show proR t = (if (rw_ t 0).length = 0 then ([[], []], true) else ([dec (upA (rw_ t 0) (rw_ t 1)) (rw_ t 0).length, dec (loB (rw_ t 0) (rw_ t 1)) (rw_ t 0).length], true)) by unfold proR; rw [if_pos hT])
    have HT := Lib.hid hT.2
    have H2 := Lib.hid hT.1
    have h8 : (rw_ t 0).length ≤ 8 := hT.2.2.1
    have HAB : Hid ((rw_ t 1).length = (rw_ t 0).length) := hT.2.1.symm
    have HTT := Lib.hid (two_list hT.1)
    clear hT
    go_enter Try.func26, Try.ntmps26
    go_wp2_with fail
    refine HP0.mono ?_; rintro e w1 ⟨rfl, b1⟩
    go_wp2_with fail
    refine (copyLists_any _ _ _ (hv0.below b1)).mono ?_; rintro e w2 ⟨r, rfl, own2, b2⟩
    have B2 := below_then b1 b2
    have own2 := own2.mono b1.size
    obtain ⟨b, o, rfl, hb, A0, c0, A1, c1, d0, d1, r0, r1⟩ := (hv0.below B2).two H2.out
    obtain ⟨rA, rc, rfl⟩ := own2.shape
    have own2 : OwSS w2 w.heap.size w2.heap.size (.slice rA 2 rc) [rw_ t 0, rw_ t 1] := by rw [← HTT.out, ← H2.out]; exact own2
    clear d1 r1 r0 b1 b2 HP0
    generalize rw_ t 0 = a at *
    generalize rw_ t 1 = bb at *
    rw [H2.out]
    rcases Nat.eq_zero_or_pos a.length with h0 | h0
    · have f0 : ((a.length : Int) == 0) = true := beq_iff_eq.2 (by omega)
      have HE := Lib.hid (show proR t = ([a, bb], true) by
        rw [HV.out, if_pos h0, List.eq_nil_of_length_eq_zero h0, List.eq_nil_of_length_eq_zero (HAB.out.trans h0)])
      have HZ := Lib.hid h0
      clear h0
      go_wp2_with fail
      go_ret2
      exact RetSSB.mk HE.out own2 B2
    · have HV2 := Lib.hid (show proR t = ([dec (upA a bb) a.length, dec (loB a bb) a.length], true) by rw [HV.out, if_neg (by omega)])
      have f0 : ((a.length : Int) == 0) = false := beq_eq_false_iff_ne.2 (by omega)
      obtain ⟨hbA, hbB⟩ := HT.out.bd
      have HBA := Lib.hid hbA
      have HBB := Lib.hid hbB
      clear hbA hbB
      obtain ⟨g, rfl, hg, _⟩ := own2.at_ (by simp)
      go_wp2_with fail
      clear d0
      go_loopw [6, 7] (fun r c wr => ∃ (k : Nat) (X Y : List Int), k < a.length ∧ c = .int .i64 (k : Int) ∧ OwSS wr w.heap.size w2.heap.size (.slice (some ⟨g, 0, none⟩) 2 rc) [X, Y] ∧ Hid (X.length = a.length ∧ Y.length = a.length ∧ Bd X ∧ Bd Y) ∧ ((r = .int .i64 0 ∧ Hid (Ph0 a bb k X Y)) ∨ (r = .int .i64 1 ∧ Hid (Ph1 a bb k X Y))) ∧ Below w.heap.size w wr) (fun r c _ => (1 - (intOf r).toNat) * (a.length + 1) + (a.length - (intOf c).toNat))
      case atStart => exact ⟨0, a, bb, h0, rfl, own2, ⟨rfl, HAB.out, HBA.out, HBB.out⟩, .inl ⟨rfl, rfl, rfl, fun i hi => absurd hi (by omega)⟩, B2⟩
      case round =>
        clear own2 B2
        obtain ⟨k, X, Y, hk, rfl, hown, HXY, hph, hBl⟩ := hrel
        obtain ⟨g0, cx, g1, cy, d0, d1, hA, hB, hg0, hg1, hn0, hn1, hgl, hS0, hS1⟩ := hown.two_rows (by rw [HXY.out.1]; omega) (by rw [HXY.out.2.1]; omega)
        have HS0 := Lib.hid hS0
        have HS1 := Lib.hid hS1
        clear hS0 hS1
        rcases hph with ⟨rfl, HP⟩ | ⟨rfl, HP⟩
        · have hkX : k < X.length := by rw [HXY.out.1]; exact hk
          have hkY : k < Y.length := by rw [HXY.out.2.1]; exact hk
          have a0 := hA.cellAt k hkX
          have a0f := hA.frozenAt k
          have b0 := hB.cellAt k hkY
          have HSL : Hid (slid a bb k = (decide (k + 1 < a.length) && decide (X.getD (k + 1) 0 < Y[k]))) := by
            obtain ⟨e1, e2, _⟩ := HP.out
            show slid a bb k = _
            subst e2
            unfold slid
            rw [← e1, getD_of hkY]
          rw [HXY.out.1] at d0
          rw [HXY.out.2.1] at d1
          by_cases hgo : k + 1 < a.length ∧ X.getD (k + 1) 0 < Y[k]
          · obtain ⟨h1, hX⟩ := hgo
            have h1X : k + 1 < X.length := by rw [HXY.out.1]; exact h1
            rw [getD_of h1X] at hX
            have a1 := hA.cellAt (k + 1) h1X
            have HN : Hid (Ph0 a bb (k + 1) (X.set k X[k + 1]) Y) := by
              obtain ⟨q1, q2, q3⟩ := HP.out
              refine ⟨?_, q2, fun i hi => ?_⟩
              · rw [shA_succ, ← q1, getD_of h1X]
              · rcases Nat.lt_or_ge i k with q | q
                · exact q3 i q
                · rw [show i = k by omega, HSL.out, decide_eq_true h1, getD_of h1X, decide_eq_true hX]; rfl
            have HB2 : Hid ((X.set k X[k + 1]).length = a.length ∧ Y.length = a.length ∧ Bd (X.set k X[k + 1]) ∧ Bd Y) :=
              ⟨by rw [List.length_set]; exact HXY.out.1, HXY.out.2.1, HXY.out.2.2.1.set _ (HXY.out.2.2.1.at_ h1X).1 (HXY.out.2.2.1.at_ h1X).2, HXY.out.2.2.2⟩
            have e4 : ((k : Int) + 1) < (a.length : Int) := by omega
            have e1 : IntKind.i64.wrap ((k : Int) + 1) = (k : Int) + 1 := IntWalk.i64_in _ (by omega)
            have e2 : ((k : Int) + 1).toNat = k + 1 := by omega
            have e3 : (0 : Int) ≤ (k : Int) + 1 := by omega
            go_wp2_with fail
            go_quiet (fail)
            have hSn := HS0.out k X[k + 1]
            have HBl := Lib.hid (show Below w.heap.size w (wr.setCell ⟨g0, k, none⟩ (.int .i64 X[k + 1])) from hBl.setCell hg0 _)
            go_wp2_with fail
            go_region
            all_goals (
              go_wp2_with fail
              go_roundw
              case rel => exact ⟨k + 1, X.set k X[k + 1], Y, h1, by go_num, OwSS.drewN_ hSn (nq + 1), HB2.out, .inl ⟨rfl, HN.out⟩, below_drewN HBl.out (nq + 1)⟩
              case measure => simp [intOf]; omega)
          · have HST : Hid (slid a bb k = false) := by
              show slid a bb k = false
              rw [HSL.out]
              by_cases h1 : k + 1 < a.length
              · rw [decide_eq_false (fun h => hgo ⟨h1, h⟩), Bool.and_false]
              · rw [decide_eq_false h1, Bool.false_and]
            have HK := Lib.hid (stopA_is hk HP.out.2.2 HST.out)
            have HN : Hid (Ph1 a bb k (X.set k Y[k]) Y) := by
              obtain ⟨q1, q2, q3⟩ := HP.out
              refine ⟨?_, 0, by rw [HK.out, Nat.add_zero], by rw [q2, shB_zero]⟩
              subst q2
              unfold upA
              rw [HK.out, q1, getD_of hkY]
            have HB2 : Hid ((X.set k Y[k]).length = a.length ∧ Y.length = a.length ∧ Bd (X.set k Y[k]) ∧ Bd Y) :=
              ⟨by rw [List.length_set]; exact HXY.out.1, HXY.out.2.1, HXY.out.2.2.1.set _ (HXY.out.2.2.2.at_ hkY).1 (HXY.out.2.2.2.at_ hkY).2, HXY.out.2.2.2⟩
            have hSn := HS0.out k Y[k]
            have HBl := Lib.hid (show Below w.heap.size w (wr.setCell ⟨g0, k, none⟩ (.int .i64 Y[k])) from hBl.setCell hg0 _)
            have hcase : (k + 1 < a.length ∧ ∃ h : k + 1 < X.length, ¬ X[k + 1] < Y[k]) ∨ ¬ k + 1 < a.length := by
              by_cases h1 : k + 1 < a.length
              · have h2 : k + 1 < X.length := by rw [HXY.out.1]; exact h1
                exact .inl ⟨h1, h2, fun h => hgo ⟨h1, by rw [getD_of h2]; exact h⟩⟩
              · exact .inr h1
            clear hgo
            rcases hcase with ⟨h1, h2, hX⟩ | h1
            · have e4 : ((k : Int) + 1) < (a.length : Int) := by omega
              have a1 := hA.cellAt (k + 1) h2
              have e1 : IntKind.i64.wrap ((k : Int) + 1) = (k : Int) + 1 := IntWalk.i64_in _ (by omega)
              have e2 : ((k : Int) + 1).toNat = k + 1 := by omega
              have e3 : (0 : Int) ≤ (k : Int) + 1 := by omega
              go_wp2_with fail
              go_quiet (fail)
              go_wp2_with fail
              go_region
              all_goals (
                go_wp2_with fail
                go_roundw
                case rel => exact ⟨k, X.set k Y[k], Y, hk, rfl, OwSS.drewN_ hSn (nq + 1), HB2.out, .inr ⟨rfl, HN.out⟩, below_drewN HBl.out (nq + 1)⟩
                case measure => (simp [intOf]; try omega))
            · have e4 : ¬ ((k : Int) + 1) < (a.length : Int) := by omega
              have e5 : decide ((k : Int) + 1 < (a.length : Int)) = false := decide_eq_false e4
              have e1 : IntKind.i64.wrap ((k : Int) + 1) = (k : Int) + 1 := IntWalk.i64_in _ (by omega)
              have e2 : ((k : Int) + 1).toNat = k + 1 := by omega
              have e3 : (0 : Int) ≤ (k : Int) + 1 := by omega
              go_wp2_with fail
              go_quiet (fail)
              go_wp2_with fail
              go_region
              all_goals (
                go_wp2_with fail
                go_roundw
                case rel => exact ⟨k, X.set k Y[k], Y, hk, rfl, OwSS.drewN_ hSn (nq + 1), HB2.out, .inr ⟨rfl, HN.out⟩, below_drewN HBl.out (nq + 1)⟩
                case measure => (simp [intOf]; try omega))
        · have hkX : k < X.length := by rw [HXY.out.1]; exact hk
          have hkY : k < Y.length := by rw [HXY.out.2.1]; exact hk
          have b0 := hB.cellAt k hkY
          have b0f := hB.frozenAt k
          rw [HXY.out.1] at d0
          rw [HXY.out.2.1] at d1
          by_cases h1 : k + 1 < a.length
          · have h1Y : k + 1 < Y.length := by rw [HXY.out.2.1]; exact h1
            have b1 := hB.cellAt (k + 1) h1Y
            have HN : Hid (Ph1 a bb (k + 1) X (Y.set k Y[k + 1])) := by
              obtain ⟨q1, x, q2, q3⟩ := HP.out
              refine ⟨q1, x + 1, by omega, ?_⟩
              rw [shB_succ, ← q2, ← q3, getD_of h1Y]
            have HB2 : Hid (X.length = a.length ∧ (Y.set k Y[k + 1]).length = a.length ∧ Bd X ∧ Bd (Y.set k Y[k + 1])) :=
              ⟨HXY.out.1, by rw [List.length_set]; exact HXY.out.2.1, HXY.out.2.2.1, HXY.out.2.2.2.set _ (HXY.out.2.2.2.at_ h1Y).1 (HXY.out.2.2.2.at_ h1Y).2⟩
            have hSn := HS1.out k Y[k + 1]
            have HBl := Lib.hid (show Below w.heap.size w (wr.setCell ⟨g1, k, none⟩ (.int .i64 Y[k + 1])) from hBl.setCell hg1 _)
            have e4 : ((k : Int) + 1) < (a.length : Int) := by omega
            have e1 : IntKind.i64.wrap ((k : Int) + 1) = (k : Int) + 1 := IntWalk.i64_in _ (by omega)
            have e2 : ((k : Int) + 1).toNat = k + 1 := by omega
            have e3 : (0 : Int) ≤ (k : Int) + 1 := by omega
            go_wp2_with fail
            go_quiet (fail)
            go_wp2_with fail
            go_region
            all_goals (
              go_wp2_with fail
              go_roundw
              case rel => exact ⟨k + 1, X, Y.set k Y[k + 1], h1, by go_num, OwSS.drewN_ hSn (nq + 1), HB2.out, .inr ⟨rfl, HN.out⟩, below_drewN HBl.out (nq + 1)⟩
              case measure => simp [intOf]; omega)
          · have e4 : ¬ ((k : Int) + 1) < (a.length : Int) := by omega
            have e5 : decide ((k : Int) + 1 < (a.length : Int)) = false := decide_eq_false e4
            have hke : k = a.length - 1 := by omega
            have HU := Lib.hid (show X = upA a bb from HP.out.1)
            have HL : Hid (loB a bb = Y.set k (2 * (a.length : Int) + 1)) := by
              obtain ⟨q1, x, q2, q3⟩ := HP.out
              show loB a bb = _
              unfold loB
              rw [show a.length - 1 - stopA a bb = x by omega, ← q3, hke]
            have hSn := HS1.out k (2 * (a.length : Int) + 1)
            have hw2 : IntKind.i64.wrap (2 * (a.length : Int)) = 2 * (a.length : Int) := IntWalk.i64_in _ (by omega)
            have HBl := Lib.hid (show Below w.heap.size w (wr.setCell ⟨g1, k, none⟩ (.int .i64 (2 * (a.length : Int) + 1))) from hBl.setCell hg1 _)
            clear hke
            have e1 : IntKind.i64.wrap ((k : Int) + 1) = (k : Int) + 1 := IntWalk.i64_in _ (by omega)
            have e2 : ((k : Int) + 1).toNat = k + 1 := by omega
            have e3 : (0 : Int) ≤ (k : Int) + 1 := by omega
            go_wp2_with fail
            go_quiet (fail)
            go_wp2_with fail
            have hown5 : OwSS (World.setCell (World.drewN wr nq) ⟨g1, k, none⟩ (.int .i64 (2 * (a.length : Int) + 1))) w.heap.size w2.heap.size (.slice (some ⟨g, 0, none⟩) 2 rc) [upA a bb, loB a bb] := by
              rw [← HU.out, HL.out]; exact OwSS.drewN_ hSn nq
            have hB5 : Below w.heap.size w (World.setCell (World.drewN wr nq) ⟨g1, k, none⟩ (.int .i64 (2 * (a.length : Int) + 1))) := below_drewN HBl.out nq
            generalize World.setCell (World.drewN wr nq) ⟨g1, k, none⟩ (.int .i64 (2 * (a.length : Int) + 1)) = w5 at hown5 hB5 ⊢
            clear hown hA hB d0 d1 b0 b0f hSn hBl e1 e2 e3 e4 e5 hw2 hg0 hg1 hn0 hn1 hkX hkY
            have HLU := Lib.hid (upA_len a bb)
            have HLL := Lib.hid ((loB_len a bb).trans HAB.out)
            have HBU : Hid (Bd (upA a bb)) := by
              show Bd _
              rw [← HU.out]; exact HXY.out.2.2.1
            have HBLo : Hid (Bd (loB a bb)) := by
              show Bd _
              rw [HL.out]; exact HXY.out.2.2.2.set _ (by omega) (by omega)
            refine wp_loop_rounds 3 ?_
            rw [rounds_succ]
            obtain ⟨g0, cx, g1, cy, d0, d1, hA, hBr, hg0, hg1, hn0, hn1, hgl, hS0, hS1⟩ := hown5.two_rows (by simp only [dec_len, HLU.out]; omega) (by simp only [dec_len, HLL.out]; omega)
            have hAl : Hid (True) := trivial
            simp only [dec_len, HLU.out, HLL.out] at d0 d1 hA hBr
            clear hAl hS0 hS1 hA hBr
            go_wp2_with fail
            go_loopw [101] (fun i wr => ∃ y : Nat, y ≤ a.length ∧ i = .int .i64 (y : Int) ∧ OwSS wr w.heap.size w2.heap.size (.slice (some ⟨g, 0, none⟩) 2 rc) [dec (upA a bb) y, loB a bb] ∧ wr.cell? ⟨g, 0, none⟩ = some (.slice (some ⟨g0, 0, none⟩) a.length cx) ∧ Below w.heap.size w wr) (fun i _ => a.length - (intOf i).toNat)
            case atStart => exact ⟨0, by omega, rfl, by rw [dec_zero]; exact hown5, d0, hB5⟩
            case round =>
              clear hown5 d0 d1 hB5 hg0 hg1 hn0 hn1 hgl
              obtain ⟨y, hy, rfl, hown, dj, hB⟩ := hrel
              obtain ⟨h0_, cx_, h1_, cy_, d0, d1, hA, hBr, hg0, hg1, hn0, hn1, hgl, hS0, hS1⟩ := hown.two_rows (by simp only [dec_len, HLU.out]; omega) (by simp only [dec_len, HLL.out]; omega)
              simp only [dec_len, HLU.out, HLL.out] at d0 d1 hA hBr
              have he : h0_ = g0 ∧ cx_ = cx := by
                rw [d0] at dj
                injection dj with dj
                injection dj with e1 e2 e3
                injection e1 with e1
                injection e1 with e1
                exact ⟨e1, e3⟩
              obtain ⟨rfl, rfl⟩ := he
              by_cases h3 : y < a.length
              · have hyl : y < (dec (upA a bb) y).length := by rw [dec_len, HLU.out]; exact h3
                have hyl2 : y < (upA a bb).length := by rw [HLU.out]; exact h3
                have p0 := hA.cellAt y hyl
                have p0f := hA.frozenAt y
                have HD := Lib.hid (dec_succ (l := upA a bb) (k := y) hyl2)
                rw [dec_get hyl2] at p0
                obtain ⟨hu0, hu1⟩ := HBU.out.at_ (k := y) hyl2
                obtain ⟨U, hU⟩ : ∃ U, U = (upA a bb)[y] := ⟨_, rfl⟩
                rw [← hU] at p0 hu0 hu1 HD
                have HS := Lib.hid (hS0 y (U - 1))
                have HG := Lib.hid ((World.cell?_of_block (a := ⟨g, 0, none⟩) ((hA.stored y (U - 1)).2.block g hgl (by simp; exact hn0))).trans dj)
                clear hU hS0 hS1
                go_wp2_with fail
                go_roundw
                case rel => exact ⟨y + 1, by omega, by go_num, by rw [HD.out]; exact HS.out, HG.out, hB.setCell hg0 _⟩
                case measure => simp [intOf]; omega
              · have hye : y = a.length := by omega
                subst hye
                clear d0 d1 dj hA hBr hg0 hg1 hn0 hn1 hgl hS0 hS1
                go_wp2_with fail
                rw [rounds_succ]
                obtain ⟨g0, cx, g1, cy, d0, d1, hA, hBr, hg0, hg1, hn0, hn1, hgl, hS0, hS1⟩ := hown.two_rows (by simp only [dec_len, HLU.out]; omega) (by simp only [dec_len, HLL.out]; omega)
                have hAl : Hid (True) := trivial
                simp only [dec_len, HLU.out, HLL.out] at d0 d1 hA hBr
                clear hAl hS0 hS1 hA hBr
                go_wp2_with fail
                go_loopw [101] (fun i wr => ∃ y : Nat, y ≤ a.length ∧ i = .int .i64 (y : Int) ∧ OwSS wr w.heap.size w2.heap.size (.slice (some ⟨g, 0, none⟩) 2 rc) [dec (upA a bb) a.length, dec (loB a bb) y] ∧ wr.cell? ⟨g, 1, none⟩ = some (.slice (some ⟨g1, 0, none⟩) a.length cy) ∧ Below w.heap.size w wr) (fun i _ => a.length - (intOf i).toNat)
                case atStart => exact ⟨0, by omega, rfl, by rw [dec_zero]; exact hown, d1, hB⟩
                case round =>
                  clear hown d0 d1 hB hg0 hg1 hn0 hn1 hgl
                  obtain ⟨y, hy, rfl, hown, dj, hB⟩ := hrel
                  obtain ⟨h0_, cx_, h1_, cy_, d0, d1, hA, hBr, hg0, hg1, hn0, hn1, hgl, hS0, hS1⟩ := hown.two_rows (by simp only [dec_len, HLU.out]; omega) (by simp only [dec_len, HLL.out]; omega)
                  simp only [dec_len, HLU.out, HLL.out] at d0 d1 hA hBr
                  have he : h1_ = g1 ∧ cy_ = cy := by
                    rw [d1] at dj
                    injection dj with dj
                    injection dj with e1 e2 e3
                    injection e1 with e1
                    injection e1 with e1
                    exact ⟨e1, e3⟩
                  obtain ⟨rfl, rfl⟩ := he
                  by_cases h3 : y < a.length
                  · have hyl : y < (dec (loB a bb) y).length := by rw [dec_len, HLL.out]; exact h3
                    have hyl2 : y < (loB a bb).length := by rw [HLL.out]; exact h3
                    have p0 := hBr.cellAt y hyl
                    have p0f := hBr.frozenAt y
                    have HD := Lib.hid (dec_succ (l := loB a bb) (k := y) hyl2)
                    rw [dec_get hyl2] at p0
                    obtain ⟨hu0, hu1⟩ := HBLo.out.at_ (k := y) hyl2
                    obtain ⟨U, hU⟩ : ∃ U, U = (loB a bb)[y] := ⟨_, rfl⟩
                    rw [← hU] at p0 hu0 hu1 HD
                    have HS := Lib.hid (hS1 y (U - 1))
                    have HG := Lib.hid ((World.cell?_of_block (a := ⟨g, 1, none⟩) ((hBr.stored y (U - 1)).2.block g hgl (by simp; exact hn1))).trans dj)
                    clear hU hS0 hS1
                    go_wp2_with fail
                    go_roundw
                    case rel => exact ⟨y + 1, by omega, by go_num, by rw [HD.out]; exact HS.out, HG.out, hB.setCell hg1 _⟩
                    case measure => simp [intOf]; omega
                  · have hye : y = a.length := by omega
                    subst hye
                    clear d0 d1 dj hA hBr hg0 hg1 hn0 hn1 hgl hS0 hS1
                    go_wp2_with fail
                    rw [rounds_succ]
                    go_wp2_with fail
                    go_ret2
                    exact RetSSB.mk HV2.out hown.size hB
  · simp only [decide_eq_false hT] at HP0
    have HV := Lib.hid (show proR t = ([], false) by unfold proR; rw [if_neg hT])
    clear hT
    go_enter Try.func26, Try.ntmps26
    go_wp2_with fail
    refine HP0.mono ?_; rintro e w1 ⟨rfl, b1⟩
    go_wp2_with fail
    go_ret2
    exact RetSSB.mk HV.out (OwSS.empty2 w1 w.heap.size b1.size) (b1.alloc b1.size _)
end Go.Proofs.Ytnkkgfeegaiakaa
