/- Contracts of PathOfPermutation, the program's and the reference's: both return the same text and bool. No condition. -/
import Derived.Test.YtnkkgfeegaiakaaPermTriple
import Derived.Test.YtnkkgfeegaiakaaPlain13
import Derived.Test.YtnkkgfeegaiakaaGround
import Derived.Test.YtnkkgfeegaiakaaStack
namespace Go.Proofs.Ytnkkgfeegaiakaa
open Go.RowKit
set_option maxHeartbeats 1000000 in
theorem specPathOfPermutation_any (v : Value) (p : List Int) (w : World) (hv : RdI w v p) :
    Calls Try.prog 71 #[v] w (RetSB w (pthR p)) := by
  have hv0 := hv
  obtain ⟨A, c, rfl, hc, hl, _⟩ := hv
  have HP0 := specIsPermutation_any _ _ _ hv0
  by_cases hP : PermP p
  · simp only [decide_eq_true hP] at HP0
    have h8 := hP.1
    have HC0 : ∀ q, Calls Try.prog 78 #[.slice A p.length c] (w.drewN q) fun e w' => e = .returned (.bool (decide (TripR R231 p))) ∧ ∃ m, w' = (w.drewN q).drewN m := fun q => specContains231_any _ _ _ (hv0.drewN q)
    by_cases hT : TripR R231 p
    · simp only [decide_eq_true hT] at HC0
      have HV := Lib.hid (show pthR p = ([], false) by unfold pthR; rw [if_neg (fun h => h.2 hT)])
      clear hP hT
      go_enter Try.func71, Try.ntmps71
      go_wp2_with fail
      refine HP0.mono ?_; rintro e w' ⟨rfl, q, rfl⟩
      go_wp2_with (go_at_call 78; refine (HC0 _).mono ?_; rintro e w' ⟨rfl, m, rfl⟩)
      go_ret2
      exact RetSB.mk HV.out rfl (by first | exact below_draws _ _ | exact below_drewN (below_draws _ _) _)
    · simp only [decide_eq_false hT] at HC0
      have HV := Lib.hid (show pthR p = ((ppS p p.length).2.2, true) by unfold pthR; rw [if_pos ⟨hP, hT⟩])
      clear hP hT
      go_enter Try.func71, Try.ntmps71
      go_wp2_with fail
      refine HP0.mono ?_; rintro e w' ⟨rfl, q, rfl⟩
      go_wp2_with (go_at_call 78; refine (HC0 _).mono ?_; rintro e w' ⟨rfl, m, rfl⟩)
      have hB00 := below_draws w (q + m)
      have hs00 : (w.drewN (q + m)).heap.size = w.heap.size := rfl
      generalize w.drewN (q + m) = w1 at *
      have own0 := OwI.empty_ w1 w.heap.size (by omega)
      have hB0 : Below w.heap.size w (w1.alloc (.cells #[] 3)) := hB00.alloc (by omega) _
      rw [hs00] at own0
      generalize w1.alloc (.cells #[] 3) = w2 at own0 hB0 ⊢
      go_loopw [4, 5, 6, 7] (fun x y z i wr => ∃ (k : Nat) (st : List Int) (g : Nat) (l : List UInt8), k ≤ p.length ∧ i = .int .i64 k ∧ x = .string (S l) ∧ z = .int .i64 (g : Int) ∧ OwI wr w.heap.size y st ∧ Hid (ppS p k = (st, (g : Int), l)) ∧ g + st.length = k ∧ l.length = k + g ∧ Below w.heap.size w wr) (fun _ _ _ i _ => p.length - (intOf i).toNat)
      case atStart => exact ⟨0, [], 0, [], by omega, rfl, rfl, rfl, own0, ppS_zero p, rfl, rfl, hB0⟩
      case round =>
        clear own0 hB0 hB00 hs00
        obtain ⟨k, st, g, l, hk, rfl, rfl, rfl, hst, HT, hgs, hll, hB⟩ := hrel
        have hsz := hB.size
        by_cases hlt : k < p.length
        · obtain ⟨b, o, rfl, _, hcl⟩ := (hv0.below hB).at_ (by omega)
          have c1 := hcl k hlt
          clear hcl
          have hszS : (S l).size ≤ 1000 := by rw [S_size]; omega
          have HS := Lib.hid (show S l ++ ⟨#[117]⟩ = S (l ++ [117]) from S_snoc l 117)
          have HR := Lib.hid (show ppS p (k + 1) = popV (st ++ [p[k]]).length (st ++ [p[k]], (g : Int), l ++ [117]) by rw [ppS_succ hlt, HT.out, ppStep, List.length_append]; rfl)
          have hlen : st.length < 1099511627776 := by omega
          generalize p[k] = X at *
          go_wp2_with (at_builtin; refine wpList_appI _ rfl _ _ rfl w.heap.size _ _ rfl hst _ rfl (by simp) hlen hsz ?_)
          intro v' w3 hst3 hg3 hat3
          have hB3 := below_of_own hB hg3 hsz (fun g hg => (hst.lt g hg).1)
          rw [HS.out]
          clear hst hg3 hat3 hB hszS
          have hq1 : g + (st ++ [X]).length = k + 1 := by rw [List.length_append]; simp; omega
          have hq2 : (l ++ [117]).length = k + 1 + g := by rw [List.length_append]; simp; omega
          generalize st ++ [X] = st1 at *
          generalize l ++ [117] = l1 at *
          go_wp2_with fail
          go_loopw [4, 5, 6] (fun x y z wr => ∃ (st : List Int) (g : Nat) (l : List UInt8), x = .string (S l) ∧ z = .int .i64 (g : Int) ∧ OwI wr w.heap.size y st ∧ Hid (ppS p (k + 1) = popV st.length (st, (g : Int), l)) ∧ g + st.length = k + 1 ∧ l.length = k + 1 + g ∧ Below w.heap.size w wr) (fun _ _ z _ => p.length + 1 - (intOf z).toNat)
          case atStart => exact ⟨st1, g, l1, rfl, rfl, hst3, HR.out, hq1, hq2, hB3⟩
          case round =>
            clear hst3 hB3 hq1 hq2 HR
            obtain ⟨st, g, l, rfl, rfl, hst, HR, hgs, hll, hB⟩ := hrel
            have hsz := hB.size
            have hszS : (S l).size ≤ 1000 := by rw [S_size]; omega
            rcases List.eq_nil_or_concat st with hnil | ⟨ys, y, hys⟩
            · subst hnil
              have HE := Lib.hid (show ppS p (k + 1) = ([], (g : Int), l) by rw [HR.out, popV_nil])
              rcases hst.shape with ⟨rfl, _⟩ | ⟨ga, cap, rfl, _⟩
              all_goals (
                go_wp2_with fail
                go_roundw
                case rel => exact ⟨k + 1, [], g, l, by omega, by go_num, rfl, rfl, hst, HE.out, by simpa using hgs, hll, hB⟩
                case measure => simp [intOf]; omega)
            · rw [List.concat_eq_append] at hys
              subst hys
              obtain ⟨ga, cap, rfl, hgb, hgl, hcx, hcap, hst2⟩ := OwR.pop (OwI_is.1 hst)
              have hle : (ys ++ [y]).length = ys.length + 1 := by simp
              by_cases hyg : y = (g : Int)
              · subst hyg
                have f1 : ((g : Int) == (g : Int)) = true := by simp
                have HS := Lib.hid (show S l ++ ⟨#[100]⟩ = S (l ++ [100]) from S_snoc l 100)
                have HE := Lib.hid (show ppS p (k + 1) = popV ys.length (ys, (g : Int) + 1, l ++ [100]) by rw [HR.out, hle, popV_hit])
                rw [hle] at hgs
                clear hst hle
                go_wp2_with fail
                go_roundw
                case rel => exact ⟨ys, g + 1, l ++ [100], by rw [HS.out], by go_num, OwI_is.2 hst2, HE.out, by omega, by rw [List.length_append]; simp; omega, hB⟩
                case measure => simp [intOf]; omega
              · have f1 : (y == (g : Int)) = false := by simpa using hyg
                have HE := Lib.hid (show ppS p (k + 1) = (ys ++ [y], (g : Int), l) by rw [HR.out, popV_miss _ _ hyg])
                clear hyg
                go_wp2_with fail
                go_roundw
                case rel => exact ⟨k + 1, ys ++ [y], g, l, by omega, by go_num, rfl, rfl, by simpa using hst, HE.out, hgs, hll, hB⟩
                case measure => simp [intOf]; omega
        · have hke : k = p.length := by omega
          subst hke
          have HE := Lib.hid (show pthR p = (l, true) by rw [HV.out, HT.out])
          go_wp2_with fail
          go_ret2
          exact RetSB.mk HE.out rfl hB
  · simp only [decide_eq_false hP] at HP0
    have HV := Lib.hid (show pthR p = ([], false) by unfold pthR; rw [if_neg (fun h => hP h.1)])
    clear hP
    go_enter Try.func71, Try.ntmps71
    go_wp2_with fail
    refine HP0.mono ?_; rintro e w' ⟨rfl, q, rfl⟩
    go_wp2_with fail
    go_ret2
    exact RetSB.mk HV.out rfl (below_draws _ _)
end Go.Proofs.Ytnkkgfeegaiakaa
