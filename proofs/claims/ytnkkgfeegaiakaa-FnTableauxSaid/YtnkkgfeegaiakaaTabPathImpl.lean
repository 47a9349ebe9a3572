/- Contract of the program's PathOfTableau: returns the text and the bool. No condition. -/
import Derived.Test.YtnkkgfeegaiakaaTabPath
namespace Go.Proofs.Ytnkkgfeegaiakaa
open Go.RowKit
theorem info_byte0 : (Try.prog.info? 5).map (fun i => (i.zero, i.size, i.bytes)) = some (some (bf 0), 1, 1) := info_byte
set_option maxHeartbeats 100000 in
theorem implPathOfTableau_any (v : Value) (t : List (List Int)) (w : World) (hv : RdSS w v t) :
    Calls Try.prog 23 #[v] w (RetSB w (potR t)) := by
  have hv0 := hv
  have HP0 := implIsTableau_any _ _ _ hv0
  obtain ⟨A, c, rfl, hc, hl, _⟩ := hv
  by_cases hT : TabP t
  · simp only [decide_eq_true hT] at HP0
    have hi0 : (0 : Int) < (t.length : Int) := by have := hT.1; omega
    have hi1 : (1 : Int) < (t.length : Int) := by have := hT.1; omega
    have HV := Lib.hid (show potR t = (potL (rw_ t 0) (2 * (rw_ t 0).length), true) by unfold potR; rw [if_pos hT])
    have HT := Lib.hid hT.2
    have h8 : (rw_ t 0).length ≤ 8 := hT.2.2.1
    have HAB : Hid ((rw_ t 1).length = (rw_ t 0).length) := hT.2.1.symm
    have H2 := Lib.hid hT.1
    have HRD := Lib.hid hv0
    clear hT
    go_enter Try.func23, Try.ntmps23
    go_wp2_with fail
    refine HP0.mono ?_; rintro e w1 ⟨rfl, b1⟩
    obtain ⟨b, o, rfl, hb, A0, c0, A1, c1, d0, d1, r0, r1⟩ := (hv0.below b1).two H2.out
    generalize rw_ t 0 = a at *
    generalize rw_ t 1 = bb at *
    rw [HAB.out] at d1 r1
    have hw2 : IntKind.i64.wrap (2 * (a.length : Int)) = 2 * (a.length : Int) := IntWalk.i64_in _ (by omega)
    go_wp2_with (at_make; refine wpList_makeR (f := bf) _ rfl _ _ 31 rfl 5 0 1 Try.underlying31 info_byte0 rfl (by omega) _ _ _ _ (2 * a.length) rfl rfl (by go_num) (by go_num) (by omega) ?_)
    intro w2 own2 b2
    have B2 := below_then b1 b2
    have own2 := own2.mono b1.size
    have e0 := (b2.cell (p := ⟨b, o, none⟩) hb).trans d0
    have hg1 := b1.size
    clear hw2
    have HGZ := Lib.hid (rfl : w1.heap.size = w1.heap.size)
    generalize hgz : w1.heap.size = ga at *
    clear HGZ
    have HGZ := Lib.hid hgz
    clear hgz
    go_wp2_with fail
    go_loopw [19] (fun i wr => ∃ k : Nat, k ≤ a.length ∧ i = .int .i64 (k : Int) ∧ OwR 5 bf wr w.heap.size (.slice (some ⟨ga, 0, none⟩) (2 * a.length) (2 * a.length)) (fillW a bb k) ∧ Below w.heap.size w wr ∧ Below ga w1 wr) (fun i _ => a.length - (intOf i).toNat)
    case atStart => exact ⟨0, by omega, rfl, own2, B2, b2⟩
    case round =>
      clear own2 B2 e0 b2
      obtain ⟨k, hk, rfl, hown, hB, hB1⟩ := hrel
      by_cases hlt : k < a.length
      · obtain ⟨x0, p0, rfl, hx0, hc0⟩ := r0.at_ (by omega)
        obtain ⟨x1, p1, rfl, hx1, hc1⟩ := r1.at_ (by rw [HAB.out]; omega)
        rw [HGZ.out] at hx0 hx1
        have hbd := HT.out.bounds hlt
        rw [getD_of hlt, getD_of (show k < bb.length by rw [HAB.out]; omega)] at hbd
        obtain ⟨y0, hy0⟩ : ∃ y : Nat, a[k] = (y : Int) + 1 := ⟨(a[k] - 1).toNat, by omega⟩
        obtain ⟨y1, hy1⟩ : ∃ y : Nat, bb[k]'(by rw [HAB.out]; omega) = (y : Int) + 1 := ⟨(bb[k]'(by rw [HAB.out]; omega) - 1).toNat, by omega⟩
        have g0 := (hB1.cell (p := ⟨x0, p0 + k, none⟩) hx0).trans (hc0 k hlt)
        have g1 := (hB1.cell (p := ⟨x1, p1 + k, none⟩) hx1).trans (hc1 k (by rw [HAB.out]; omega))
        have e0 := (hB1.cell (p := ⟨b, o, none⟩) hb).trans d0
        have e1 := (hB1.cell (p := ⟨b, o + 1, none⟩) hb).trans d1
        rw [hy0] at g0
        rw [hy1] at g1
        rw [hy0, hy1] at hbd
        have hy0l : y0 < 2 * a.length := by omega
        have hy1l : y1 < 2 * a.length := by omega
        have HF := Lib.hid (show fillW a bb (k + 1) = ((fillW a bb k).set y0 117).set y1 100 by
          rw [fillW_succ, getD_of hlt, getD_of (show k < bb.length by rw [HAB.out]; omega), hy0, hy1, show ((y0 : Int) + 1 - 1).toNat = y0 by omega, show ((y1 : Int) + 1 - 1).toNat = y1 by omega])
        have hfl := fillW_len a bb k
        have q2 := hown.cellAt y0 (by omega)
        have q3 := hown.frozenAt y0
        have hs5 : OwR 5 bf (wr.setCell ⟨ga, y0, none⟩ (.int .u8 117)) w.heap.size (.slice (some ⟨ga, 0, none⟩) (2 * a.length) (2 * a.length)) ((fillW a bb k).set y0 117) := (hown.stored y0 117).1
        have q5 := hs5.cellAt y1 (by simp; omega)
        have q6 := hs5.frozenAt y1
        have HS6 := Lib.hid (hs5.stored y1 100).1
        clear hs5
        go_wp2_with fail
        go_roundw
        case rel => exact ⟨k + 1, by omega, by go_num, by rw [HF.out]; exact HS6.out, (hB.setCell hg1 _).setCell hg1 _, (hB1.setCell (Nat.le_refl _) _).setCell (Nat.le_refl _) _⟩
        case measure => simp [intOf]; omega
      · have hke : k = a.length := by omega
        subst hke
        have HE := Lib.hid (show potR t = (fillW a bb a.length, true) by rw [HV.out, fillW_all HT.out])
        have kc := conv_row hown
        go_wp2_with fail
        go_ret2
        exact RetSB.mk HE.out rfl hB
  · simp only [decide_eq_false hT] at HP0
    have HV := Lib.hid (show potR t = ([], false) by unfold potR; rw [if_neg hT])
    clear hT
    go_enter Try.func23, Try.ntmps23
    go_wp2_with fail
    refine HP0.mono ?_; rintro e w1 ⟨rfl, b1⟩
    go_wp2_with fail
    go_ret2
    exact RetSB.mk HV.out rfl b1
end Go.Proofs.Ytnkkgfeegaiakaa
