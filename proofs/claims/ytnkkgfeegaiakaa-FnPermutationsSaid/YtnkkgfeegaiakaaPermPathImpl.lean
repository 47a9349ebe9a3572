/- Contract of the program's PathOfPermutation. No condition. -/
import Derived.Test.YtnkkgfeegaiakaaPermPath
namespace Go.Proofs.Ytnkkgfeegaiakaa
open Go.RowKit
def valsAt (p js : List Int) : List Int := js.map fun j => p.getD j.toNat 0
def InRange (p js : List Int) : Prop := ∀ j ∈ js, 0 ≤ j ∧ j < (p.length : Int)
set_option maxHeartbeats 1000000 in
theorem implPathOfPermutation_any (v : Value) (p : List Int) (w : World) (hv : RdI w v p) :
    Calls Try.prog 63 #[v] w (RetSB w (pthR p)) := by
  have hv0 := hv
  obtain ⟨A, c, rfl, hc, hl, _⟩ := hv
  have HP0 := implIsPermutation_any _ _ _ hv0
  by_cases hP : PermP p
  · simp only [decide_eq_true hP] at HP0
    have h8 := hP.1
    have HC0 : ∀ wq, Below w.heap.size w wq → Calls Try.prog 64 #[.slice A p.length c] wq fun e w' => e = .returned (.bool (decide (TripR R231 p))) ∧ Below wq.heap.size wq w' := fun wq hq => implContains231_any _ _ _ (hv0.below hq)
    by_cases hT : TripR R231 p
    · simp only [decide_eq_true hT] at HC0
      have HV := Lib.hid (show pthR p = ([], false) by unfold pthR; rw [if_neg (fun h => h.2 hT)])
      clear hP hT
      go_enter Try.func63, Try.ntmps63
      go_wp2_with fail
      refine HP0.mono ?_; rintro e w1 ⟨rfl, b1⟩
      go_wp2_with (go_at_call 64; refine (HC0 _ b1).mono ?_; rintro e w2 ⟨rfl, b2⟩)
      go_ret2
      exact RetSB.mk HV.out rfl (below_then b1 b2)
    · simp only [decide_eq_false hT] at HC0
      have HV := Lib.hid (show pthR p = ((ppS p p.length).2.2, true) by unfold pthR; rw [if_pos ⟨hP, hT⟩])
      clear hP hT
      go_enter Try.func63, Try.ntmps63
      go_wp2_with fail
      refine HP0.mono ?_; rintro e w1 ⟨rfl, b1⟩
      go_wp2_with (go_at_call 64; refine (HC0 _ b1).mono ?_; rintro e w2 ⟨rfl, b2⟩)
      have B2 := below_then b1 b2
      have hsz2 := B2.size
      have ownB := OwR.emptyB w2 w.heap.size hsz2
      have hs3 : (w2.alloc (.cells #[] 5)).heap.size = w2.heap.size + 1 := by simp
      have ownS := OwI.empty_ (w2.alloc (.cells #[] 5)) w.heap.size (by rw [hs3]; omega)
      have ownB2 := ownB.below ((Below.refl _ _).alloc (Nat.le_refl _) (.cells #[] 3))
      rw [hs3] at ownS
      have hB0 : Below w.heap.size w ((w2.alloc (.cells #[] 5)).alloc (.cells #[] 3)) := (B2.alloc hsz2 _).alloc (by rw [hs3]; omega) _
      clear ownB hs3
      generalize (w2.alloc (.cells #[] 5)).alloc (.cells #[] 3) = w3 at *
      go_loopw [4, 5, 6, 19] (fun x y z i wr => ∃ (k : Nat) (js : List Int) (g : Nat) (l : List UInt8), k ≤ p.length ∧ i = .int .i64 k ∧ OwR 5 bf wr w.heap.size x l ∧ z = .int .i64 (g : Int) ∧ OwI wr w.heap.size y js ∧ Hid (ppS p k = (valsAt p js, (g : Int), l)) ∧ Hid (InRange p js) ∧ g + js.length = k ∧ l.length = k + g ∧ Below w.heap.size w wr) (fun _ _ _ i _ => p.length - (intOf i).toNat)
      case atStart => exact ⟨0, [], 0, [], by omega, rfl, ownB2, rfl, ownS, ppS_zero p, fun j hj => by simp at hj, rfl, rfl, hB0⟩
      case round =>
        clear ownB2 ownS hB0 B2 hsz2 b1 b2
        obtain ⟨k, js, g, l, hk, rfl, hx, rfl, hst, HT, HIR, hgs, hll, hB⟩ := hrel
        have hsz := hB.size
        by_cases hlt : k < p.length
        · have HR := Lib.hid (show ppS p (k + 1) = popV (js ++ [(k : Int)]).length (valsAt p (js ++ [(k : Int)]), (g : Int), l ++ [117]) by
            rw [ppS_succ hlt, HT.out, ppStep, List.length_append]
            simp only [valsAt, List.map_append, List.map_cons, List.map_nil, List.length_map, List.length_singleton, Int.toNat_natCast, getD_of hlt])
          have HIR2 := Lib.hid (show InRange p (js ++ [(k : Int)]) from fun j hj => by
            rcases List.mem_append.1 hj with h | h
            · exact HIR.out j h
            · rw [List.mem_singleton.1 h]; omega)
          have hlen : js.length < 1099511627776 := by omega
          have hlenB : l.length < 1099511627776 := by omega
          have hap : Apart _ _ := OwR.apart_of_type (e := 5) (e' := 3) hx (OwI_is.1 hst) (by decide)
          have HPV := Lib.hid hv0
          go_wp2_with (at_builtin; refine wpList_appB _ rfl _ _ rfl w.heap.size _ _ rfl hx 117 _ rfl rfl rfl hlenB hsz ?_)
          intro v' w4 hx4 hg4 hat4
          have hB4 := below_of_own hB hg4 hsz (fun g hg => (hx.lt g hg).1)
          have R4 := (OwI_is.1 hst).after_app hap hg4 hat4
          obtain ⟨hst4, hap4⟩ := R4
          have hst4 := OwI_is.2 hst4
          have hsz4 := hB4.size
          clear hst hx hg4 hat4 hap hB
          go_wp2_with (at_builtin; refine wpList_appI _ rfl _ _ rfl w.heap.size _ _ rfl hst4 _ rfl (by simp) hlen hsz4 ?_)
          intro v5 w5 hst5 hg5 hat5
          have hB5 := below_of_own hB4 hg5 hsz4 (fun g hg => (hst4.lt g hg).1)
          have hx5 := (hx4.after_app hap4.symm hg5 hat5).1
          clear hst4 hx4 hg5 hat5 hap4 hB4
          have hq1 : g + (js ++ [(k : Int)]).length = k + 1 := by rw [List.length_append]; simp; omega
          have hq2 : (l ++ [117]).length = k + 1 + g := by rw [List.length_append]; simp; omega
          generalize js ++ [(k : Int)] = js1 at *
          generalize l ++ [117] = l1 at *
          go_wp2_with fail
          go_loopw [4, 5, 6] (fun x y z wr => ∃ (js : List Int) (g : Nat) (l : List UInt8), OwR 5 bf wr w.heap.size x l ∧ z = .int .i64 (g : Int) ∧ OwI wr w.heap.size y js ∧ Hid (ppS p (k + 1) = popV js.length (valsAt p js, (g : Int), l)) ∧ Hid (InRange p js) ∧ g + js.length = k + 1 ∧ l.length = k + 1 + g ∧ Below w.heap.size w wr) (fun _ _ z _ => p.length + 1 - (intOf z).toNat)
          case atStart => exact ⟨js1, g, l1, hx5, rfl, hst5, HR.out, HIR2.out, hq1, hq2, hB5⟩
          case round =>
            clear hst5 hx5 hB5 hq1 hq2 HR HIR2 HIR
            obtain ⟨js, g, l, hx, rfl, hst, HR, HIR, hgs, hll, hB⟩ := hrel
            have hsz := hB.size
            rcases List.eq_nil_or_concat js with hnil | ⟨ys, y, hys⟩
            · subst hnil
              have HE := Lib.hid (show ppS p (k + 1) = (valsAt p [], (g : Int), l) by rw [HR.out]; exact popV_nil _ _ _)
              rcases hst.shape with ⟨rfl, _⟩ | ⟨ga, cap, rfl, _⟩
              all_goals (
                go_wp2_with fail
                go_roundw
                case rel => exact ⟨k + 1, [], g, l, by omega, by go_num, hx, rfl, hst, HE.out, HIR.out, by simpa using hgs, hll, hB⟩
                case measure => simp [intOf]; omega)
            · rw [List.concat_eq_append] at hys
              subst hys
              obtain ⟨ga, cap, rfl, hgb, hgl, hcx, hcap, hst2⟩ := OwR.pop (OwI_is.1 hst)
              have hle : (ys ++ [y]).length = ys.length + 1 := by simp
              have hva : valsAt p (ys ++ [y]) = valsAt p ys ++ [p.getD y.toNat 0] := by simp [valsAt]
              obtain ⟨hy0, hy1⟩ := HIR.out y (by simp)
              obtain ⟨yn, rfl⟩ : ∃ yn : Nat, y = (yn : Int) := ⟨y.toNat, by omega⟩
              have hyl : yn < p.length := by omega
              rw [Int.toNat_natCast, getD_of hyl] at hva
              obtain ⟨b, o, rfl, _, hcl⟩ := (HPV.out.below hB).at_ (by omega)
              have c1 := hcl yn hyl
              have hap : Apart _ _ := OwR.apart_of_type (e := 5) (e' := 3) hx hst2 (by decide)
              have hlenB : l.length < 1099511627776 := by omega
              clear hcl
              by_cases hyg : p[yn] = (g : Int)
              · have f1 : (p[yn] == (g : Int)) = true := by simpa using hyg
                have HE := Lib.hid (show ppS p (k + 1) = popV ys.length (valsAt p ys, (g : Int) + 1, l ++ [100]) by rw [HR.out, hle, hva, hyg, popV_hit])
                have HI2 := Lib.hid (show InRange p ys from fun j hj => HIR.out j (List.mem_append_left _ hj))
                rw [hle] at hgs
                clear hst hle hva hyg
                go_wp2_with (at_builtin; refine wpList_appB _ rfl _ _ rfl w.heap.size _ _ rfl hx 100 _ rfl rfl rfl hlenB hsz ?_)
                intro v6 w6 hx6 hg6 hat6
                have hB6 := below_of_own hB hg6 hsz (fun g hg => (hx.lt g hg).1)
                have hst6 := (hst2.after_app hap hg6 hat6).1
                clear hx hst2 hg6 hat6 hap
                go_wp2_with fail
                go_roundw
                case rel => exact ⟨ys, g + 1, l ++ [100], hx6, by go_num, OwI_is.2 hst6, HE.out, HI2.out, by omega, by rw [List.length_append]; simp; omega, hB6⟩
                case measure => simp [intOf]; omega
              · have f1 : (p[yn] == (g : Int)) = false := by simpa using hyg
                have HE := Lib.hid (show ppS p (k + 1) = (valsAt p (ys ++ [(yn : Int)]), (g : Int), l) by rw [HR.out, hva, popV_miss _ _ hyg])
                clear hyg hva
                go_wp2_with fail
                go_roundw
                case rel => exact ⟨k + 1, ys ++ [(yn : Int)], g, l, by omega, by go_num, hx, rfl, by simpa using hst, HE.out, HIR.out, hgs, hll, hB⟩
                case measure => simp [intOf]; omega
        · have hke : k = p.length := by omega
          subst hke
          have HE := Lib.hid (show pthR p = (l, true) by rw [HV.out, HT.out])
          have HCV := conv_row hx
          go_wp2_with fail
          go_ret2
          exact RetSB.mk HE.out rfl hB
  · simp only [decide_eq_false hP] at HP0
    have HV := Lib.hid (show pthR p = ([], false) by unfold pthR; rw [if_neg (fun h => hP h.1)])
    clear hP
    go_enter Try.func63, Try.ntmps63
    go_wp2_with fail
    refine HP0.mono ?_; rintro e w1 ⟨rfl, b1⟩
    go_wp2_with fail
    go_ret2
    exact RetSB.mk HV.out rfl b1
end Go.Proofs.Ytnkkgfeegaiakaa
