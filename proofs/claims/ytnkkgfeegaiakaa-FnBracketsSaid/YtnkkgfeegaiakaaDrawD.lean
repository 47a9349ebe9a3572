/- Contracts of the draws of paths: what is drawn is a path. Condition: the cursor. -/
import Derived.Test.YtnkkgfeegaiakaaGround
import Derived.Test.YtnkkgfeegaiakaaDrawBase
namespace Go.Proofs.Ytnkkgfeegaiakaa
open Go.RowKit
theorem scan_snoc (l : List UInt8) (c : UInt8) : scan (l ++ [c]) = stepD (scan l) c := by rw [scan_append]; rfl
/-- what a call leaves that draws a path -/
def RetTD (w : World) (cb : Nat) (bs : List UInt8) (e : Ending) (w' : World) : Prop := ∃ l : List UInt8, e = .returned (.string (S l)) ∧ DyckP l ∧ l.length ≤ 12 ∧ CurAt w' cb bs ∧ w.grownBy w' (some cb)
structure Mid (n x y : Nat) (l : List UInt8) : Prop where
  len : l.length = x + y
  hx : x ≤ n
  hy : y ≤ n
  le : y ≤ x
  sc : scan l = some (x - y)
theorem Mid.up {n x y : Nat} {l : List UInt8} (h : Mid n x y l) (hx : x < n) : Mid n (x + 1) y (l ++ [117]) := by
  refine ⟨by rw [List.length_append, h.len]; show x + y + 1 = _; omega, by omega, h.hy, by have := h.le; omega, ?_⟩
  rw [scan_snoc, h.sc]
  show some (x - y + 1) = _
  have := h.le
  rw [show x + 1 - y = x - y + 1 by omega]
theorem Mid.down {n x y : Nat} {l : List UInt8} (h : Mid n x y l) (hy : y < n) (hyx : y < x) : Mid n x (y + 1) (l ++ [100]) := by
  refine ⟨by rw [List.length_append, h.len]; show x + y + 1 = _; omega, h.hx, by omega, by omega, ?_⟩
  rw [scan_snoc, h.sc]
  show (if x - y = 0 then none else some (x - y - 1)) = _
  rw [if_neg (by omega), show x - (y + 1) = x - y - 1 by omega]
set_option maxHeartbeats 1000000 in
theorem l2DrawD_any (cb n : Nat) (bs : List UInt8) (w : World) (hc : CurAt w cb bs) (hn : n ≤ 6) :
    Calls Try.prog 256 #[.pointer (some ⟨cb, 0, none⟩), .int .i64 (n : Int)] w (RetTD w cb bs) := by
  have G0 := World.grownBy.refl w (some cb)
  go_enter Try.func256, Try.ntmps256
  go_wp2_with fail
  go_loopw [5, 6, 7] (fun s u d wr => ∃ (l : List UInt8) (x y : Nat), s = .string (S l) ∧ u = .int .i64 (x : Int) ∧ d = .int .i64 (y : Int) ∧ Hid (Mid n x y l) ∧ CurAt wr cb bs ∧ w.grownBy wr (some cb)) (fun _ u d _ => 24 - ((intOf u).toNat + (intOf d).toNat))
  case atStart => exact ⟨[], 0, 0, rfl, rfl, rfl, Lib.hid ⟨rfl, by omega, by omega, by omega, rfl⟩, hc, G0⟩
  case round =>
    clear hc G0
    obtain ⟨l, x, y, rfl, rfl, rfl, HM, hc, hg⟩ := hrel
    have hl := HM.out.len
    have hx := HM.out.hx
    have hy := HM.out.hy
    have hyx := HM.out.le
    have hl12 : (S l).size ≤ 12 := by rw [S_size]; omega
    have HU := Lib.hid (S_snoc l 117)
    have HD := Lib.hid (S_snoc l 100)
    clear hl
    by_cases hyn : y < n
    · have hyni : (y : Int) < (n : Int) := by omega
      by_cases hxn : x < n
      · have hxni : (x : Int) < (n : Int) := by omega
        by_cases hxy : x = y
        · have f1 : ((x : Int) == (y : Int)) = true := beq_iff_eq.2 (by omega)
          clear hxy
          go_wp2_with fail
          go_roundw
          case rel => exact ⟨l ++ [117], x + 1, y, by rw [← HU.out], by go_num, rfl, Lib.hid (HM.out.up hxn), hc, hg⟩
          case measure => simp [intOf]; omega
        · have f1 : ((x : Int) == (y : Int)) = false := beq_eq_false_iff_ne.2 (by omega)
          have HO := Lib.hid (l1Once_any cb 2 bs wr hc (by omega) (by omega))
          have hyx2 : y < x := by omega
          clear hxy
          go_wp2_with (go_at_call 237; refine HO.out.mono ?_; rintro e w1 ⟨z, rfl, c1, g1⟩; have hg1 := grown_trans_row hg g1)
          · go_roundw
            case rel => exact ⟨l ++ [117], x + 1, y, by rw [← HU.out], by go_num, rfl, Lib.hid (HM.out.up hxn), c1, hg1⟩
            case measure => simp [intOf]; omega
          · go_roundw
            case rel => exact ⟨l ++ [100], x, y + 1, by rw [← HD.out], rfl, by go_num, Lib.hid (HM.out.down hyn hyx2), c1, hg1⟩
            case measure => simp [intOf]; omega
      · have hxni : ¬ (x : Int) < (n : Int) := by omega
        have hyx2 : y < x := by omega
        go_wp2_with fail
        go_roundw
        case rel => exact ⟨l ++ [100], x, y + 1, by rw [← HD.out], rfl, by go_num, Lib.hid (HM.out.down hyn hyx2), hc, hg⟩
        case measure => simp [intOf]; omega
    · have hyni : ¬ (y : Int) < (n : Int) := by omega
      have HE := Lib.hid (show DyckP l ∧ l.length ≤ 12 by
        have h1 := HM.out.len
        have h2 := HM.out.sc
        rw [show x - y = 0 by omega] at h2
        exact ⟨⟨by omega, h2⟩, by omega⟩)
      go_wp2_with fail
      go_ret
      exact ⟨l, rfl, HE.out.1, HE.out.2, hc, hg⟩
theorem l2PathD_any (cb : Nat) (bs : List UInt8) (w : World) (hc : CurAt w cb bs) : Calls Try.prog 236 #[.pointer (some ⟨cb, 0, none⟩)] w (RetTD w cb bs) := by
  go_enter Try.func236, Try.ntmps236
  go_wp2_with fail
  refine (l1Below_any cb 7 bs w hc (by omega) (by omega)).mono ?_; rintro e w1 ⟨x, rfl, hx, c1, g1⟩
  go_wp2_with fail
  refine (l2DrawD_any cb x bs w1 c1 (by omega)).mono ?_; rintro e w2 ⟨s, rfl, hs, hl, c2, g2⟩
  go_wp2_with fail
  go_ret
  exact ⟨s, rfl, hs, hl, c2, grown_trans_row g1 g2⟩
end Go.Proofs.Ytnkkgfeegaiakaa
