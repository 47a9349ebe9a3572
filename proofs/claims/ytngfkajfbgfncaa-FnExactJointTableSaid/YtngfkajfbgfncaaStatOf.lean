/- Contracts of StatisticOf, the program's and the reference's: both return the same number, -1 for no path or no name. Condition: the word's size. -/
import Derived.Test.YtngfkajfbgfncaaPlane2
import Derived.Test.YtngfkajfbgfncaaPartOf
import Derived.Test.YtngfkajfbgfncaaMajor
import Derived.Test.YtngfkajfbgfncaaBlocks
import Derived.Test.YtngfkajfbgfncaaBlocksImpl
namespace Go.Proofs.Ytngfkajfbgfncaa
open Go.RowKit
theorem plS_len (l : List UInt8) : (plS l).p.length = cu l + 1 := by
  have h : ∀ (l : List UInt8) (s : PlS), (l.foldl plF s).p.length = cu l + s.p.length := by
    intro l
    induction l with
    | nil => intro s; simp [cu]
    | cons c l ih =>
      intro s
      have e : c :: l = [c] ++ l := rfl
      rw [List.foldl_cons, ih, e, cu_append]
      by_cases hc : c.toNat = 117
      · simp [plF, cu, hc]; omega
      · simp [plF, cu, hc]
  have := h l ⟨[-1], [0]⟩
  simpa [plS] using this
theorem plInv_all {l : List UInt8} (hd : DyckP l) : ∀ k, k ≤ l.length → PlInv l k (plS (l.take k)) := by
  intro k
  induction k with
  | zero => intro _; exact PlInv.start l
  | succ k ih =>
    intro hk
    have h := ih (by omega)
    by_cases hu : (l[k]'(by omega)).toNat = 117
    · have := h.up hd (by omega) hu
      have e := this.is
      rw [← e] at this
      exact this
    · have := h.down hd (by omega) hu
      have e := this.is
      rw [← e] at this
      exact this
theorem plS_pl {l : List UInt8} (hd : DyckP l) : PL (plS l).p := by
  have := (plInv_all hd l.length (Nat.le_refl _)).pl
  rwa [List.take_length] at this
theorem plS_le {l : List UInt8} (hd : DyckP l) : (plS l).p.length ≤ 9 := by
  have h1 := plS_len l
  have h2 := dyck_half hd
  have h3 := hd.1
  omega
/-- a statistic by its name -/
def statV (nm : List UInt8) (l : List UInt8) : Int :=
  if DyckP l then
    if nm = [112, 101, 97, 107, 115] then peaksV l else
    if nm = [114, 101, 116, 117, 114, 110, 115] then returnsV l else
    if nm = [114, 105, 115, 101] then ((runU l : Nat) : Int) else
    if nm = [102, 97, 108, 108] then ((runD l : Nat) : Int) else
    if nm = [97, 114, 101, 97] then areaV l else
    if nm = [100, 101, 112, 116, 104] then depthV l else
    if nm = [108, 101, 97, 118, 101, 115] then ((lvN (plS l).p (plS l).p.length : Nat) : Int) else
    if nm = [98, 108, 111, 99, 107, 115] then (((blocksR (parR l).1).length : Nat) : Int) else
    if nm = [109, 97, 106, 111, 114] then majV l else
    -1
  else -1
theorem statV_peaks {nm l : List UInt8} (h : DyckP l) (e : nm = [112, 101, 97, 107, 115]) : statV nm l = peaksV l := by
  subst e; unfold statV; rw [if_pos h]; rw [if_pos rfl]
theorem statV_returns {nm l : List UInt8} (h : DyckP l) (e : nm = [114, 101, 116, 117, 114, 110, 115]) : statV nm l = returnsV l := by
  subst e; unfold statV; rw [if_pos h]; rw [if_neg (by decide)]; rw [if_pos rfl]
theorem statV_rise {nm l : List UInt8} (h : DyckP l) (e : nm = [114, 105, 115, 101]) : statV nm l = ((runU l : Nat) : Int) := by
  subst e; unfold statV; rw [if_pos h]; rw [if_neg (by decide)]; rw [if_neg (by decide)]; rw [if_pos rfl]
theorem statV_area {nm l : List UInt8} (h : DyckP l) (e : nm = [97, 114, 101, 97]) : statV nm l = areaV l := by
  subst e; unfold statV; rw [if_pos h]; rw [if_neg (by decide)]; rw [if_neg (by decide)]; rw [if_neg (by decide)]; rw [if_neg (by decide)]; rw [if_pos rfl]
theorem statV_depth {nm l : List UInt8} (h : DyckP l) (e : nm = [100, 101, 112, 116, 104]) : statV nm l = depthV l := by
  subst e; unfold statV; rw [if_pos h]; rw [if_neg (by decide)]; rw [if_neg (by decide)]; rw [if_neg (by decide)]; rw [if_neg (by decide)]; rw [if_neg (by decide)]; rw [if_pos rfl]
theorem statV_leaves {nm l : List UInt8} (h : DyckP l) (e : nm = [108, 101, 97, 118, 101, 115]) : statV nm l = ((lvN (plS l).p (plS l).p.length : Nat) : Int) := by
  subst e; unfold statV; rw [if_pos h]; rw [if_neg (by decide)]; rw [if_neg (by decide)]; rw [if_neg (by decide)]; rw [if_neg (by decide)]; rw [if_neg (by decide)]; rw [if_neg (by decide)]; rw [if_pos rfl]
theorem statV_blocks {nm l : List UInt8} (h : DyckP l) (e : nm = [98, 108, 111, 99, 107, 115]) : statV nm l = (((blocksR (parR l).1).length : Nat) : Int) := by
  subst e; unfold statV; rw [if_pos h]; rw [if_neg (by decide)]; rw [if_neg (by decide)]; rw [if_neg (by decide)]; rw [if_neg (by decide)]; rw [if_neg (by decide)]; rw [if_neg (by decide)]; rw [if_neg (by decide)]; rw [if_pos rfl]
theorem statV_major {nm l : List UInt8} (h : DyckP l) (e : nm = [109, 97, 106, 111, 114]) : statV nm l = majV l := by
  subst e; unfold statV; rw [if_pos h]; rw [if_neg (by decide)]; rw [if_neg (by decide)]; rw [if_neg (by decide)]; rw [if_neg (by decide)]; rw [if_neg (by decide)]; rw [if_neg (by decide)]; rw [if_neg (by decide)]; rw [if_neg (by decide)]; rw [if_pos rfl]
theorem statV_fall {nm l : List UInt8} (h : DyckP l) (e : nm = [102, 97, 108, 108]) : statV nm l = ((runD l : Nat) : Int) := by
  subst e; unfold statV; rw [if_pos h]; rw [if_neg (by decide)]; rw [if_neg (by decide)]; rw [if_neg (by decide)]; rw [if_pos rfl]
theorem statV_none {nm l : List UInt8} (h : ¬ DyckP l) : statV nm l = -1 := by unfold statV; rw [if_neg h]
def isName (nm : List UInt8) : Prop := nm = [112, 101, 97, 107, 115] ∨ nm = [114, 101, 116, 117, 114, 110, 115] ∨ nm = [114, 105, 115, 101] ∨ nm = [97, 114, 101, 97] ∨ nm = [100, 101, 112, 116, 104] ∨ nm = [108, 101, 97, 118, 101, 115] ∨ nm = [98, 108, 111, 99, 107, 115] ∨ nm = [109, 97, 106, 111, 114] ∨ nm = [102, 97, 108, 108]
theorem statV_other {nm l : List UInt8} (e : ¬ isName nm) : statV nm l = -1 := by
  unfold isName at e; simp only [not_or] at e; obtain ⟨e0, e1, e2, e3, e4, e5, e6, e7, e8⟩ := e
  unfold statV; by_cases hd : DyckP l
  · rw [if_pos hd]; rw [if_neg e0]; rw [if_neg e1]; rw [if_neg e2]; rw [if_neg e8]; rw [if_neg e3]; rw [if_neg e4]; rw [if_neg e5]; rw [if_neg e6]; rw [if_neg e7]
  · rw [if_neg hd]
set_option maxHeartbeats 1000000 in
theorem specStat_peaks (nm s : ByteArray) (w : World) (hs : s.size ≤ 1099511627776) (hp : DyckP (L s)) (e : nm.toList = [112, 101, 97, 107, 115]) :
    Calls Try.prog 207 #[.string nm, .string s] w fun e w' => e = .returned (.int .i64 (statV nm.toList (L s))) ∧ Below w.heap.size w w' := by
  have hl16 := hp.1
  rw [L_len] at hl16
  have HS := Lib.hid (statV_peaks hp e)
  have f_peaks : (nm.toList == [112, 101, 97, 107, 115]) = true := beq_iff_eq.2 e
  have f_returns : (nm.toList == [114, 101, 116, 117, 114, 110, 115]) = false := by rw [e]; rfl
  have f_rise : (nm.toList == [114, 105, 115, 101]) = false := by rw [e]; rfl
  have f_area : (nm.toList == [97, 114, 101, 97]) = false := by rw [e]; rfl
  have f_depth : (nm.toList == [100, 101, 112, 116, 104]) = false := by rw [e]; rfl
  have f_leaves : (nm.toList == [108, 101, 97, 118, 101, 115]) = false := by rw [e]; rfl
  have f_blocks : (nm.toList == [98, 108, 111, 99, 107, 115]) = false := by rw [e]; rfl
  have f_major : (nm.toList == [109, 97, 106, 111, 114]) = false := by rw [e]; rfl
  have f_fall : (nm.toList == [102, 97, 108, 108]) = false := by rw [e]; rfl
  clear e
  have HD := Lib.hid hp
  have HP0 := to_below' (specIsDyck_any s w hs)
  simp only [decide_eq_true hp] at HP0
  have HP := Lib.hid HP0
  clear hp HP0
  rw [HS.out]
  clear HS
  go_enter Try.func207, Try.ntmps207
  go_wp2_with fail
  refine HP.out.mono ?_; rintro e w1 ⟨rfl, b1⟩
  go_wp2_with fail
  refine (to_below' (specPeaksOf_any s _ hs)).mono ?_; rintro e w2 ⟨rfl, b2⟩
  go_wp2_with fail
  go_ret
  exact ⟨rfl, below_then b1 b2⟩
set_option maxHeartbeats 1000000 in
theorem specStat_returns (nm s : ByteArray) (w : World) (hs : s.size ≤ 1099511627776) (hp : DyckP (L s)) (e : nm.toList = [114, 101, 116, 117, 114, 110, 115]) :
    Calls Try.prog 207 #[.string nm, .string s] w fun e w' => e = .returned (.int .i64 (statV nm.toList (L s))) ∧ Below w.heap.size w w' := by
  have hl16 := hp.1
  rw [L_len] at hl16
  have HS := Lib.hid (statV_returns hp e)
  have f_peaks : (nm.toList == [112, 101, 97, 107, 115]) = false := by rw [e]; rfl
  have f_returns : (nm.toList == [114, 101, 116, 117, 114, 110, 115]) = true := beq_iff_eq.2 e
  have f_rise : (nm.toList == [114, 105, 115, 101]) = false := by rw [e]; rfl
  have f_area : (nm.toList == [97, 114, 101, 97]) = false := by rw [e]; rfl
  have f_depth : (nm.toList == [100, 101, 112, 116, 104]) = false := by rw [e]; rfl
  have f_leaves : (nm.toList == [108, 101, 97, 118, 101, 115]) = false := by rw [e]; rfl
  have f_blocks : (nm.toList == [98, 108, 111, 99, 107, 115]) = false := by rw [e]; rfl
  have f_major : (nm.toList == [109, 97, 106, 111, 114]) = false := by rw [e]; rfl
  have f_fall : (nm.toList == [102, 97, 108, 108]) = false := by rw [e]; rfl
  clear e
  have HD := Lib.hid hp
  have HP0 := to_below' (specIsDyck_any s w hs)
  simp only [decide_eq_true hp] at HP0
  have HP := Lib.hid HP0
  clear hp HP0
  rw [HS.out]
  clear HS
  go_enter Try.func207, Try.ntmps207
  go_wp2_with fail
  refine HP.out.mono ?_; rintro e w1 ⟨rfl, b1⟩
  go_wp2_with fail
  refine (specReturnsOf_any s _ hs).mono ?_; rintro e w2 ⟨rfl, b2⟩
  go_wp2_with fail
  go_ret
  exact ⟨rfl, below_then b1 b2⟩
set_option maxHeartbeats 1000000 in
theorem specStat_rise (nm s : ByteArray) (w : World) (hs : s.size ≤ 1099511627776) (hp : DyckP (L s)) (e : nm.toList = [114, 105, 115, 101]) :
    Calls Try.prog 207 #[.string nm, .string s] w fun e w' => e = .returned (.int .i64 (statV nm.toList (L s))) ∧ Below w.heap.size w w' := by
  have hl16 := hp.1
  rw [L_len] at hl16
  have HS := Lib.hid (statV_rise hp e)
  have f_peaks : (nm.toList == [112, 101, 97, 107, 115]) = false := by rw [e]; rfl
  have f_returns : (nm.toList == [114, 101, 116, 117, 114, 110, 115]) = false := by rw [e]; rfl
  have f_rise : (nm.toList == [114, 105, 115, 101]) = true := beq_iff_eq.2 e
  have f_area : (nm.toList == [97, 114, 101, 97]) = false := by rw [e]; rfl
  have f_depth : (nm.toList == [100, 101, 112, 116, 104]) = false := by rw [e]; rfl
  have f_leaves : (nm.toList == [108, 101, 97, 118, 101, 115]) = false := by rw [e]; rfl
  have f_blocks : (nm.toList == [98, 108, 111, 99, 107, 115]) = false := by rw [e]; rfl
  have f_major : (nm.toList == [109, 97, 106, 111, 114]) = false := by rw [e]; rfl
  have f_fall : (nm.toList == [102, 97, 108, 108]) = false := by rw [e]; rfl
  clear e
  have HD := Lib.hid hp
  have HP0 := to_below' (specIsDyck_any s w hs)
  simp only [decide_eq_true hp] at HP0
  have HP := Lib.hid HP0
  clear hp HP0
  rw [HS.out]
  clear HS
  go_enter Try.func207, Try.ntmps207
  go_wp2_with fail
  refine HP.out.mono ?_; rintro e w1 ⟨rfl, b1⟩
  go_wp2_with fail
  refine (to_below' (specRunU_any s _ hs)).mono ?_; rintro e w2 ⟨rfl, b2⟩
  go_wp2_with fail
  go_ret
  exact ⟨rfl, below_then b1 b2⟩
set_option maxHeartbeats 1000000 in
theorem specStat_area (nm s : ByteArray) (w : World) (hs : s.size ≤ 1099511627776) (hp : DyckP (L s)) (e : nm.toList = [97, 114, 101, 97]) :
    Calls Try.prog 207 #[.string nm, .string s] w fun e w' => e = .returned (.int .i64 (statV nm.toList (L s))) ∧ Below w.heap.size w w' := by
  have hl16 := hp.1
  rw [L_len] at hl16
  have HS := Lib.hid (statV_area hp e)
  have f_peaks : (nm.toList == [112, 101, 97, 107, 115]) = false := by rw [e]; rfl
  have f_returns : (nm.toList == [114, 101, 116, 117, 114, 110, 115]) = false := by rw [e]; rfl
  have f_rise : (nm.toList == [114, 105, 115, 101]) = false := by rw [e]; rfl
  have f_area : (nm.toList == [97, 114, 101, 97]) = true := beq_iff_eq.2 e
  have f_depth : (nm.toList == [100, 101, 112, 116, 104]) = false := by rw [e]; rfl
  have f_leaves : (nm.toList == [108, 101, 97, 118, 101, 115]) = false := by rw [e]; rfl
  have f_blocks : (nm.toList == [98, 108, 111, 99, 107, 115]) = false := by rw [e]; rfl
  have f_major : (nm.toList == [109, 97, 106, 111, 114]) = false := by rw [e]; rfl
  have f_fall : (nm.toList == [102, 97, 108, 108]) = false := by rw [e]; rfl
  clear e
  have HD := Lib.hid hp
  have HP0 := to_below' (specIsDyck_any s w hs)
  simp only [decide_eq_true hp] at HP0
  have HP := Lib.hid HP0
  clear hp HP0
  rw [HS.out]
  clear HS
  go_enter Try.func207, Try.ntmps207
  go_wp2_with fail
  refine HP.out.mono ?_; rintro e w1 ⟨rfl, b1⟩
  go_wp2_with fail
  refine (specAreaOf_any s _ hs).mono ?_; rintro e w2 ⟨rfl, b2⟩
  go_wp2_with fail
  go_ret
  exact ⟨rfl, below_then b1 b2⟩
set_option maxHeartbeats 1000000 in
theorem specStat_depth (nm s : ByteArray) (w : World) (hs : s.size ≤ 1099511627776) (hp : DyckP (L s)) (e : nm.toList = [100, 101, 112, 116, 104]) :
    Calls Try.prog 207 #[.string nm, .string s] w fun e w' => e = .returned (.int .i64 (statV nm.toList (L s))) ∧ Below w.heap.size w w' := by
  have hl16 := hp.1
  rw [L_len] at hl16
  have HS := Lib.hid (statV_depth hp e)
  have f_peaks : (nm.toList == [112, 101, 97, 107, 115]) = false := by rw [e]; rfl
  have f_returns : (nm.toList == [114, 101, 116, 117, 114, 110, 115]) = false := by rw [e]; rfl
  have f_rise : (nm.toList == [114, 105, 115, 101]) = false := by rw [e]; rfl
  have f_area : (nm.toList == [97, 114, 101, 97]) = false := by rw [e]; rfl
  have f_depth : (nm.toList == [100, 101, 112, 116, 104]) = true := beq_iff_eq.2 e
  have f_leaves : (nm.toList == [108, 101, 97, 118, 101, 115]) = false := by rw [e]; rfl
  have f_blocks : (nm.toList == [98, 108, 111, 99, 107, 115]) = false := by rw [e]; rfl
  have f_major : (nm.toList == [109, 97, 106, 111, 114]) = false := by rw [e]; rfl
  have f_fall : (nm.toList == [102, 97, 108, 108]) = false := by rw [e]; rfl
  clear e
  have HD := Lib.hid hp
  have HP0 := to_below' (specIsDyck_any s w hs)
  simp only [decide_eq_true hp] at HP0
  have HP := Lib.hid HP0
  clear hp HP0
  rw [HS.out]
  clear HS
  go_enter Try.func207, Try.ntmps207
  go_wp2_with fail
  refine HP.out.mono ?_; rintro e w1 ⟨rfl, b1⟩
  go_wp2_with fail
  refine (specBracketsOf_any s _ HD.out).mono ?_; rintro e w2 ⟨rfl, b2⟩
  go_wp2_with fail
  refine (specDepthOf_any _ (L s) _ (L_S _) HD.out).mono ?_; rintro e w3 ⟨rfl, b3⟩
  go_wp2_with fail
  go_ret
  exact ⟨rfl, below_then b1 (below_then b2 b3)⟩
set_option maxHeartbeats 1000000 in
theorem specStat_leaves (nm s : ByteArray) (w : World) (hs : s.size ≤ 1099511627776) (hp : DyckP (L s)) (e : nm.toList = [108, 101, 97, 118, 101, 115]) :
    Calls Try.prog 207 #[.string nm, .string s] w fun e w' => e = .returned (.int .i64 (statV nm.toList (L s))) ∧ Below w.heap.size w w' := by
  have hl16 := hp.1
  rw [L_len] at hl16
  have HS := Lib.hid (statV_leaves hp e)
  have f_peaks : (nm.toList == [112, 101, 97, 107, 115]) = false := by rw [e]; rfl
  have f_returns : (nm.toList == [114, 101, 116, 117, 114, 110, 115]) = false := by rw [e]; rfl
  have f_rise : (nm.toList == [114, 105, 115, 101]) = false := by rw [e]; rfl
  have f_area : (nm.toList == [97, 114, 101, 97]) = false := by rw [e]; rfl
  have f_depth : (nm.toList == [100, 101, 112, 116, 104]) = false := by rw [e]; rfl
  have f_leaves : (nm.toList == [108, 101, 97, 118, 101, 115]) = true := beq_iff_eq.2 e
  have f_blocks : (nm.toList == [98, 108, 111, 99, 107, 115]) = false := by rw [e]; rfl
  have f_major : (nm.toList == [109, 97, 106, 111, 114]) = false := by rw [e]; rfl
  have f_fall : (nm.toList == [102, 97, 108, 108]) = false := by rw [e]; rfl
  clear e
  have HD := Lib.hid hp
  have HP0 := to_below' (specIsDyck_any s w hs)
  simp only [decide_eq_true hp] at HP0
  have HP := Lib.hid HP0
  clear hp HP0
  rw [HS.out]
  clear HS
  go_enter Try.func207, Try.ntmps207
  go_wp2_with fail
  refine HP.out.mono ?_; rintro e w1 ⟨rfl, b1⟩
  go_wp2_with fail
  refine (specPlaneOf_any s _ HD.out hs).mono ?_; rintro e w2 ⟨r, rfl, o2, b2⟩
  go_wp2_with fail
  refine (specLeavesOf_any _ _ _ o2.rd (plS_pl HD.out) (plS_le HD.out)).mono ?_; rintro e w3 ⟨rfl, b3⟩
  go_wp2_with fail
  go_ret
  exact ⟨rfl, below_then b1 (below_then b2 b3)⟩
set_option maxHeartbeats 1000000 in
theorem specStat_blocks (nm s : ByteArray) (w : World) (hs : s.size ≤ 1099511627776) (hp : DyckP (L s)) (e : nm.toList = [98, 108, 111, 99, 107, 115]) :
    Calls Try.prog 207 #[.string nm, .string s] w fun e w' => e = .returned (.int .i64 (statV nm.toList (L s))) ∧ Below w.heap.size w w' := by
  have hl16 := hp.1
  rw [L_len] at hl16
  have HS := Lib.hid (statV_blocks hp e)
  have f_peaks : (nm.toList == [112, 101, 97, 107, 115]) = false := by rw [e]; rfl
  have f_returns : (nm.toList == [114, 101, 116, 117, 114, 110, 115]) = false := by rw [e]; rfl
  have f_rise : (nm.toList == [114, 105, 115, 101]) = false := by rw [e]; rfl
  have f_area : (nm.toList == [97, 114, 101, 97]) = false := by rw [e]; rfl
  have f_depth : (nm.toList == [100, 101, 112, 116, 104]) = false := by rw [e]; rfl
  have f_leaves : (nm.toList == [108, 101, 97, 118, 101, 115]) = false := by rw [e]; rfl
  have f_blocks : (nm.toList == [98, 108, 111, 99, 107, 115]) = true := beq_iff_eq.2 e
  have f_major : (nm.toList == [109, 97, 106, 111, 114]) = false := by rw [e]; rfl
  have f_fall : (nm.toList == [102, 97, 108, 108]) = false := by rw [e]; rfl
  clear e
  have HD := Lib.hid hp
  have HP0 := to_below' (specIsDyck_any s w hs)
  simp only [decide_eq_true hp] at HP0
  have HP := Lib.hid HP0
  clear hp HP0
  rw [HS.out]
  clear HS
  go_enter Try.func207, Try.ntmps207
  go_wp2_with fail
  refine HP.out.mono ?_; rintro e w1 ⟨rfl, b1⟩
  go_wp2_with fail
  refine (specPartitionOf_any s _ hs).mono ?_; rintro e w2 ⟨r, rfl, o2, b2⟩
  go_wp2_with fail
  refine (specBlocksOf_any _ _ _ o2.rd).mono ?_; rintro e w3 ⟨r3, rfl, o3, b3⟩
  obtain ⟨A3, c3, rfl⟩ := o3.shape
  go_wp2_with fail
  go_ret
  exact ⟨rfl, below_then b1 (below_then b2 b3)⟩
set_option maxHeartbeats 1000000 in
theorem specStat_major (nm s : ByteArray) (w : World) (hs : s.size ≤ 1099511627776) (hp : DyckP (L s)) (e : nm.toList = [109, 97, 106, 111, 114]) :
    Calls Try.prog 207 #[.string nm, .string s] w fun e w' => e = .returned (.int .i64 (statV nm.toList (L s))) ∧ Below w.heap.size w w' := by
  have hl16 := hp.1
  rw [L_len] at hl16
  have HS := Lib.hid (statV_major hp e)
  have f_peaks : (nm.toList == [112, 101, 97, 107, 115]) = false := by rw [e]; rfl
  have f_returns : (nm.toList == [114, 101, 116, 117, 114, 110, 115]) = false := by rw [e]; rfl
  have f_rise : (nm.toList == [114, 105, 115, 101]) = false := by rw [e]; rfl
  have f_area : (nm.toList == [97, 114, 101, 97]) = false := by rw [e]; rfl
  have f_depth : (nm.toList == [100, 101, 112, 116, 104]) = false := by rw [e]; rfl
  have f_leaves : (nm.toList == [108, 101, 97, 118, 101, 115]) = false := by rw [e]; rfl
  have f_blocks : (nm.toList == [98, 108, 111, 99, 107, 115]) = false := by rw [e]; rfl
  have f_major : (nm.toList == [109, 97, 106, 111, 114]) = true := beq_iff_eq.2 e
  have f_fall : (nm.toList == [102, 97, 108, 108]) = false := by rw [e]; rfl
  clear e
  have HD := Lib.hid hp
  have HP0 := to_below' (specIsDyck_any s w hs)
  simp only [decide_eq_true hp] at HP0
  have HP := Lib.hid HP0
  clear hp HP0
  rw [HS.out]
  clear HS
  go_enter Try.func207, Try.ntmps207
  go_wp2_with fail
  refine HP.out.mono ?_; rintro e w1 ⟨rfl, b1⟩
  go_wp2_with fail
  refine (to_below' (specMajorOf_any s _ hs)).mono ?_; rintro e w2 ⟨rfl, b2⟩
  go_wp2_with fail
  go_ret
  exact ⟨rfl, below_then b1 b2⟩
set_option maxHeartbeats 1000000 in
theorem specStat_fall (nm s : ByteArray) (w : World) (hs : s.size ≤ 1099511627776) (hp : DyckP (L s)) (e : nm.toList = [102, 97, 108, 108]) :
    Calls Try.prog 207 #[.string nm, .string s] w fun e w' => e = .returned (.int .i64 (statV nm.toList (L s))) ∧ Below w.heap.size w w' := by
  have hl16 := hp.1
  rw [L_len] at hl16
  have HS := Lib.hid (statV_fall hp e)
  have f_peaks : (nm.toList == [112, 101, 97, 107, 115]) = false := by rw [e]; rfl
  have f_returns : (nm.toList == [114, 101, 116, 117, 114, 110, 115]) = false := by rw [e]; rfl
  have f_rise : (nm.toList == [114, 105, 115, 101]) = false := by rw [e]; rfl
  have f_area : (nm.toList == [97, 114, 101, 97]) = false := by rw [e]; rfl
  have f_depth : (nm.toList == [100, 101, 112, 116, 104]) = false := by rw [e]; rfl
  have f_leaves : (nm.toList == [108, 101, 97, 118, 101, 115]) = false := by rw [e]; rfl
  have f_blocks : (nm.toList == [98, 108, 111, 99, 107, 115]) = false := by rw [e]; rfl
  have f_major : (nm.toList == [109, 97, 106, 111, 114]) = false := by rw [e]; rfl
  have f_fall : (nm.toList == [102, 97, 108, 108]) = true := beq_iff_eq.2 e
  clear e
  have HD := Lib.hid hp
  have HP0 := to_below' (specIsDyck_any s w hs)
  simp only [decide_eq_true hp] at HP0
  have HP := Lib.hid HP0
  clear hp HP0
  rw [HS.out]
  clear HS
  go_enter Try.func207, Try.ntmps207
  go_wp2_with fail
  refine HP.out.mono ?_; rintro e w1 ⟨rfl, b1⟩
  go_wp2_with fail
  refine (to_below' (specRunD_any s _ hs)).mono ?_; rintro e w2 ⟨rfl, b2⟩
  go_wp2_with fail
  go_ret
  exact ⟨rfl, below_then b1 b2⟩
set_option maxHeartbeats 1000000 in
theorem specStatisticOf_any (nm s : ByteArray) (w : World) (_hn : nm.size ≤ 1099511627776) (hs : s.size ≤ 1099511627776) :
    Calls Try.prog 207 #[.string nm, .string s] w fun e w' => e = .returned (.int .i64 (statV nm.toList (L s))) ∧ Below w.heap.size w w' := by
  by_cases hp : DyckP (L s)
  · by_cases hi : isName nm.toList
    · rcases hi with e | e | e | e | e | e | e | e | e
      · exact specStat_peaks nm s w hs hp e
      · exact specStat_returns nm s w hs hp e
      · exact specStat_rise nm s w hs hp e
      · exact specStat_area nm s w hs hp e
      · exact specStat_depth nm s w hs hp e
      · exact specStat_leaves nm s w hs hp e
      · exact specStat_blocks nm s w hs hp e
      · exact specStat_major nm s w hs hp e
      · exact specStat_fall nm s w hs hp e
    · have HS := Lib.hid (statV_other (l := L s) hi)
      unfold isName at hi
      simp only [not_or] at hi
      obtain ⟨e0, e1, e2, e3, e4, e5, e6, e7, e8⟩ := hi
      have f_peaks : (nm.toList == [112, 101, 97, 107, 115]) = false := beq_eq_false_iff_ne.2 e0
      have f_returns : (nm.toList == [114, 101, 116, 117, 114, 110, 115]) = false := beq_eq_false_iff_ne.2 e1
      have f_rise : (nm.toList == [114, 105, 115, 101]) = false := beq_eq_false_iff_ne.2 e2
      have f_area : (nm.toList == [97, 114, 101, 97]) = false := beq_eq_false_iff_ne.2 e3
      have f_depth : (nm.toList == [100, 101, 112, 116, 104]) = false := beq_eq_false_iff_ne.2 e4
      have f_leaves : (nm.toList == [108, 101, 97, 118, 101, 115]) = false := beq_eq_false_iff_ne.2 e5
      have f_blocks : (nm.toList == [98, 108, 111, 99, 107, 115]) = false := beq_eq_false_iff_ne.2 e6
      have f_major : (nm.toList == [109, 97, 106, 111, 114]) = false := beq_eq_false_iff_ne.2 e7
      have f_fall : (nm.toList == [102, 97, 108, 108]) = false := beq_eq_false_iff_ne.2 e8
      have HP0 := to_below' (specIsDyck_any s w hs)
      simp only [decide_eq_true hp] at HP0
      have HP := Lib.hid HP0
      clear hp HP0 e0 e1 e2 e3 e4 e5 e6 e7 e8
      rw [HS.out]
      clear HS
      go_enter Try.func207, Try.ntmps207
      go_wp2_with fail
      refine HP.out.mono ?_; rintro e w1 ⟨rfl, b1⟩
      go_wp2_with fail
      go_ret
      exact ⟨rfl, b1⟩
  · have HS := Lib.hid (statV_none (nm := nm.toList) hp)
    have HP0 := to_below' (specIsDyck_any s w hs)
    simp only [decide_eq_false hp] at HP0
    have HP := Lib.hid HP0
    clear hp HP0
    rw [HS.out]
    clear HS
    go_enter Try.func207, Try.ntmps207
    go_wp2_with fail
    refine HP.out.mono ?_; rintro e w1 ⟨rfl, b1⟩
    go_wp2_with fail
    go_ret
    exact ⟨rfl, b1⟩
set_option maxHeartbeats 1000000 in
theorem implStat_peaks (nm s : ByteArray) (w : World) (hs : s.size ≤ 1099511627776) (hp : DyckP (L s)) (e : nm.toList = [112, 101, 97, 107, 115]) :
    Calls Try.prog 209 #[.string nm, .string s] w fun e w' => e = .returned (.int .i64 (statV nm.toList (L s))) ∧ Below w.heap.size w w' := by
  have hl16 := hp.1
  rw [L_len] at hl16
  have HS := Lib.hid (statV_peaks hp e)
  have f_peaks : (nm.toList == [112, 101, 97, 107, 115]) = true := beq_iff_eq.2 e
  have f_returns : (nm.toList == [114, 101, 116, 117, 114, 110, 115]) = false := by rw [e]; rfl
  have f_rise : (nm.toList == [114, 105, 115, 101]) = false := by rw [e]; rfl
  have f_area : (nm.toList == [97, 114, 101, 97]) = false := by rw [e]; rfl
  have f_depth : (nm.toList == [100, 101, 112, 116, 104]) = false := by rw [e]; rfl
  have f_leaves : (nm.toList == [108, 101, 97, 118, 101, 115]) = false := by rw [e]; rfl
  have f_blocks : (nm.toList == [98, 108, 111, 99, 107, 115]) = false := by rw [e]; rfl
  have f_major : (nm.toList == [109, 97, 106, 111, 114]) = false := by rw [e]; rfl
  have f_fall : (nm.toList == [102, 97, 108, 108]) = false := by rw [e]; rfl
  clear e
  have HD := Lib.hid hp
  have HP0 := implIsDyck_any s w
  simp only [decide_eq_true hp] at HP0
  have HP := Lib.hid HP0
  clear hp HP0
  rw [HS.out]
  clear HS
  go_enter Try.func209, Try.ntmps209
  go_wp2_with fail
  refine HP.out.mono ?_; rintro e w1 ⟨rfl, b1⟩
  go_wp2_with fail
  refine (implPeaksOf_any s _).mono ?_; rintro e w2 ⟨rfl, b2⟩
  go_wp2_with fail
  go_ret
  exact ⟨rfl, below_then b1 b2⟩
set_option maxHeartbeats 1000000 in
theorem implStat_returns (nm s : ByteArray) (w : World) (hs : s.size ≤ 1099511627776) (hp : DyckP (L s)) (e : nm.toList = [114, 101, 116, 117, 114, 110, 115]) :
    Calls Try.prog 209 #[.string nm, .string s] w fun e w' => e = .returned (.int .i64 (statV nm.toList (L s))) ∧ Below w.heap.size w w' := by
  have hl16 := hp.1
  rw [L_len] at hl16
  have HS := Lib.hid (statV_returns hp e)
  have f_peaks : (nm.toList == [112, 101, 97, 107, 115]) = false := by rw [e]; rfl
  have f_returns : (nm.toList == [114, 101, 116, 117, 114, 110, 115]) = true := beq_iff_eq.2 e
  have f_rise : (nm.toList == [114, 105, 115, 101]) = false := by rw [e]; rfl
  have f_area : (nm.toList == [97, 114, 101, 97]) = false := by rw [e]; rfl
  have f_depth : (nm.toList == [100, 101, 112, 116, 104]) = false := by rw [e]; rfl
  have f_leaves : (nm.toList == [108, 101, 97, 118, 101, 115]) = false := by rw [e]; rfl
  have f_blocks : (nm.toList == [98, 108, 111, 99, 107, 115]) = false := by rw [e]; rfl
  have f_major : (nm.toList == [109, 97, 106, 111, 114]) = false := by rw [e]; rfl
  have f_fall : (nm.toList == [102, 97, 108, 108]) = false := by rw [e]; rfl
  clear e
  have HD := Lib.hid hp
  have HP0 := implIsDyck_any s w
  simp only [decide_eq_true hp] at HP0
  have HP := Lib.hid HP0
  clear hp HP0
  rw [HS.out]
  clear HS
  go_enter Try.func209, Try.ntmps209
  go_wp2_with fail
  refine HP.out.mono ?_; rintro e w1 ⟨rfl, b1⟩
  go_wp2_with fail
  refine (implReturnsOf_any s _).mono ?_; rintro e w2 ⟨rfl, b2⟩
  go_wp2_with fail
  go_ret
  exact ⟨rfl, below_then b1 b2⟩
set_option maxHeartbeats 1000000 in
theorem implStat_rise (nm s : ByteArray) (w : World) (hs : s.size ≤ 1099511627776) (hp : DyckP (L s)) (e : nm.toList = [114, 105, 115, 101]) :
    Calls Try.prog 209 #[.string nm, .string s] w fun e w' => e = .returned (.int .i64 (statV nm.toList (L s))) ∧ Below w.heap.size w w' := by
  have hl16 := hp.1
  rw [L_len] at hl16
  have HS := Lib.hid (statV_rise hp e)
  have f_peaks : (nm.toList == [112, 101, 97, 107, 115]) = false := by rw [e]; rfl
  have f_returns : (nm.toList == [114, 101, 116, 117, 114, 110, 115]) = false := by rw [e]; rfl
  have f_rise : (nm.toList == [114, 105, 115, 101]) = true := beq_iff_eq.2 e
  have f_area : (nm.toList == [97, 114, 101, 97]) = false := by rw [e]; rfl
  have f_depth : (nm.toList == [100, 101, 112, 116, 104]) = false := by rw [e]; rfl
  have f_leaves : (nm.toList == [108, 101, 97, 118, 101, 115]) = false := by rw [e]; rfl
  have f_blocks : (nm.toList == [98, 108, 111, 99, 107, 115]) = false := by rw [e]; rfl
  have f_major : (nm.toList == [109, 97, 106, 111, 114]) = false := by rw [e]; rfl
  have f_fall : (nm.toList == [102, 97, 108, 108]) = false := by rw [e]; rfl
  clear e
  have HD := Lib.hid hp
  have HP0 := implIsDyck_any s w
  simp only [decide_eq_true hp] at HP0
  have HP := Lib.hid HP0
  clear hp HP0
  rw [HS.out]
  clear HS
  go_enter Try.func209, Try.ntmps209
  go_wp2_with fail
  refine HP.out.mono ?_; rintro e w1 ⟨rfl, b1⟩
  have B := Lib.hid b1
  go_wp2_with fail
  go_loopw [5] (fun i wr => ∃ k : Nat, k ≤ s.size ∧ i = .int .i64 k ∧ Hid (∀ j (hj : j < s.size), j < k → s[j].toNat = 117) ∧ wr = w1) (fun i _ => s.size - (intOf i).toNat)
  case atStart => exact ⟨0, by omega, rfl, Lib.hid (fun j _ h => absurd h (by omega)), rfl⟩
  case round =>
    obtain ⟨k, hk, rfl, HA, rfl⟩ := hrel
    by_cases hlt : k < s.size
    · by_cases hu : s[k].toNat = 117
      · have HA' : Hid (∀ j (hj : j < s.size), j < k + 1 → s[j].toNat = 117) := Lib.hid (fun j hj hjk => by
          rcases Nat.lt_or_ge j k with h | h
          · exact HA.out j hj h
          · obtain rfl : j = k := by omega
            exact hu)
        have f1 : (((s[k].toNat : Nat) : Int) == 117) = true := by simp; omega
        clear hu
        go_wp2_with fail
        go_roundw
        case rel => exact ⟨k + 1, by omega, by go_num, HA', trivial⟩
        case measure => simp [intOf]; omega
      · have HV := Lib.hid (show runU (L s) = k from runU_at hk HA.out (fun _ => hu))
        have f1 : (((s[k].toNat : Nat) : Int) == 117) = false := by simp; omega
        clear hu
        go_wp2_with fail
        go_ret
        exact ⟨ret_int (by rw [HV.out]), B.out⟩
    · have hke : k = s.size := by omega
      have HV := Lib.hid (show runU (L s) = k from runU_at hk HA.out (fun h => absurd h (by omega)))
      subst hke
      go_wp2_with fail
      go_ret
      exact ⟨ret_int (by rw [HV.out]), B.out⟩
set_option maxHeartbeats 1000000 in
theorem implStat_area (nm s : ByteArray) (w : World) (hs : s.size ≤ 1099511627776) (hp : DyckP (L s)) (e : nm.toList = [97, 114, 101, 97]) :
    Calls Try.prog 209 #[.string nm, .string s] w fun e w' => e = .returned (.int .i64 (statV nm.toList (L s))) ∧ Below w.heap.size w w' := by
  have hl16 := hp.1
  rw [L_len] at hl16
  have HS := Lib.hid (statV_area hp e)
  have f_peaks : (nm.toList == [112, 101, 97, 107, 115]) = false := by rw [e]; rfl
  have f_returns : (nm.toList == [114, 101, 116, 117, 114, 110, 115]) = false := by rw [e]; rfl
  have f_rise : (nm.toList == [114, 105, 115, 101]) = false := by rw [e]; rfl
  have f_area : (nm.toList == [97, 114, 101, 97]) = true := beq_iff_eq.2 e
  have f_depth : (nm.toList == [100, 101, 112, 116, 104]) = false := by rw [e]; rfl
  have f_leaves : (nm.toList == [108, 101, 97, 118, 101, 115]) = false := by rw [e]; rfl
  have f_blocks : (nm.toList == [98, 108, 111, 99, 107, 115]) = false := by rw [e]; rfl
  have f_major : (nm.toList == [109, 97, 106, 111, 114]) = false := by rw [e]; rfl
  have f_fall : (nm.toList == [102, 97, 108, 108]) = false := by rw [e]; rfl
  clear e
  have HD := Lib.hid hp
  have HP0 := implIsDyck_any s w
  simp only [decide_eq_true hp] at HP0
  have HP := Lib.hid HP0
  clear hp HP0
  rw [HS.out]
  clear HS
  go_enter Try.func209, Try.ntmps209
  go_wp2_with fail
  refine HP.out.mono ?_; rintro e w1 ⟨rfl, b1⟩
  go_wp2_with fail
  refine (implAreaOf_any s _).mono ?_; rintro e w2 ⟨rfl, b2⟩
  go_wp2_with fail
  go_ret
  exact ⟨rfl, below_then b1 b2⟩
set_option maxHeartbeats 1000000 in
theorem implStat_depth (nm s : ByteArray) (w : World) (hs : s.size ≤ 1099511627776) (hp : DyckP (L s)) (e : nm.toList = [100, 101, 112, 116, 104]) :
    Calls Try.prog 209 #[.string nm, .string s] w fun e w' => e = .returned (.int .i64 (statV nm.toList (L s))) ∧ Below w.heap.size w w' := by
  have hl16 := hp.1
  rw [L_len] at hl16
  have HS := Lib.hid (statV_depth hp e)
  have f_peaks : (nm.toList == [112, 101, 97, 107, 115]) = false := by rw [e]; rfl
  have f_returns : (nm.toList == [114, 101, 116, 117, 114, 110, 115]) = false := by rw [e]; rfl
  have f_rise : (nm.toList == [114, 105, 115, 101]) = false := by rw [e]; rfl
  have f_area : (nm.toList == [97, 114, 101, 97]) = false := by rw [e]; rfl
  have f_depth : (nm.toList == [100, 101, 112, 116, 104]) = true := beq_iff_eq.2 e
  have f_leaves : (nm.toList == [108, 101, 97, 118, 101, 115]) = false := by rw [e]; rfl
  have f_blocks : (nm.toList == [98, 108, 111, 99, 107, 115]) = false := by rw [e]; rfl
  have f_major : (nm.toList == [109, 97, 106, 111, 114]) = false := by rw [e]; rfl
  have f_fall : (nm.toList == [102, 97, 108, 108]) = false := by rw [e]; rfl
  clear e
  have HD := Lib.hid hp
  have HP0 := implIsDyck_any s w
  simp only [decide_eq_true hp] at HP0
  have HP := Lib.hid HP0
  clear hp HP0
  rw [HS.out]
  clear HS
  go_enter Try.func209, Try.ntmps209
  go_wp2_with fail
  refine HP.out.mono ?_; rintro e w1 ⟨rfl, b1⟩
  go_wp2_with fail
  refine (implBracketsOf_any s _ HD.out).mono ?_; rintro e w2 ⟨rfl, b2⟩
  go_wp2_with fail
  refine (implDepthOf_any _ (L s) _ (L_S _) HD.out).mono ?_; rintro e w3 ⟨rfl, b3⟩
  go_wp2_with fail
  go_ret
  exact ⟨rfl, below_then b1 (below_then b2 b3)⟩
set_option maxHeartbeats 1000000 in
theorem implStat_leaves (nm s : ByteArray) (w : World) (hs : s.size ≤ 1099511627776) (hp : DyckP (L s)) (e : nm.toList = [108, 101, 97, 118, 101, 115]) :
    Calls Try.prog 209 #[.string nm, .string s] w fun e w' => e = .returned (.int .i64 (statV nm.toList (L s))) ∧ Below w.heap.size w w' := by
  have hl16 := hp.1
  rw [L_len] at hl16
  have HS := Lib.hid (statV_leaves hp e)
  have f_peaks : (nm.toList == [112, 101, 97, 107, 115]) = false := by rw [e]; rfl
  have f_returns : (nm.toList == [114, 101, 116, 117, 114, 110, 115]) = false := by rw [e]; rfl
  have f_rise : (nm.toList == [114, 105, 115, 101]) = false := by rw [e]; rfl
  have f_area : (nm.toList == [97, 114, 101, 97]) = false := by rw [e]; rfl
  have f_depth : (nm.toList == [100, 101, 112, 116, 104]) = false := by rw [e]; rfl
  have f_leaves : (nm.toList == [108, 101, 97, 118, 101, 115]) = true := beq_iff_eq.2 e
  have f_blocks : (nm.toList == [98, 108, 111, 99, 107, 115]) = false := by rw [e]; rfl
  have f_major : (nm.toList == [109, 97, 106, 111, 114]) = false := by rw [e]; rfl
  have f_fall : (nm.toList == [102, 97, 108, 108]) = false := by rw [e]; rfl
  clear e
  have HD := Lib.hid hp
  have HP0 := implIsDyck_any s w
  simp only [decide_eq_true hp] at HP0
  have HP := Lib.hid HP0
  clear hp HP0
  rw [HS.out]
  clear HS
  go_enter Try.func209, Try.ntmps209
  go_wp2_with fail
  refine HP.out.mono ?_; rintro e w1 ⟨rfl, b1⟩
  go_wp2_with fail
  refine (implPlaneOf_any s _ HD.out).mono ?_; rintro e w2 ⟨r, rfl, o2, b2⟩
  go_wp2_with fail
  refine (implLeavesOf_any _ _ _ o2.rd (plS_pl HD.out) (plS_le HD.out)).mono ?_; rintro e w3 ⟨rfl, b3⟩
  go_wp2_with fail
  go_ret
  exact ⟨rfl, below_then b1 (below_then b2 b3)⟩
set_option maxHeartbeats 1000000 in
theorem implStat_blocks (nm s : ByteArray) (w : World) (hs : s.size ≤ 1099511627776) (hp : DyckP (L s)) (e : nm.toList = [98, 108, 111, 99, 107, 115]) :
    Calls Try.prog 209 #[.string nm, .string s] w fun e w' => e = .returned (.int .i64 (statV nm.toList (L s))) ∧ Below w.heap.size w w' := by
  have hl16 := hp.1
  rw [L_len] at hl16
  have HS := Lib.hid (statV_blocks hp e)
  have f_peaks : (nm.toList == [112, 101, 97, 107, 115]) = false := by rw [e]; rfl
  have f_returns : (nm.toList == [114, 101, 116, 117, 114, 110, 115]) = false := by rw [e]; rfl
  have f_rise : (nm.toList == [114, 105, 115, 101]) = false := by rw [e]; rfl
  have f_area : (nm.toList == [97, 114, 101, 97]) = false := by rw [e]; rfl
  have f_depth : (nm.toList == [100, 101, 112, 116, 104]) = false := by rw [e]; rfl
  have f_leaves : (nm.toList == [108, 101, 97, 118, 101, 115]) = false := by rw [e]; rfl
  have f_blocks : (nm.toList == [98, 108, 111, 99, 107, 115]) = true := beq_iff_eq.2 e
  have f_major : (nm.toList == [109, 97, 106, 111, 114]) = false := by rw [e]; rfl
  have f_fall : (nm.toList == [102, 97, 108, 108]) = false := by rw [e]; rfl
  clear e
  have HD := Lib.hid hp
  have HP0 := implIsDyck_any s w
  simp only [decide_eq_true hp] at HP0
  have HP := Lib.hid HP0
  clear hp HP0
  rw [HS.out]
  clear HS
  go_enter Try.func209, Try.ntmps209
  go_wp2_with fail
  refine HP.out.mono ?_; rintro e w1 ⟨rfl, b1⟩
  go_wp2_with fail
  refine (implPartitionOf_any s _ hs).mono ?_; rintro e w2 ⟨r, rfl, o2, b2⟩
  go_wp2_with fail
  refine (implBlocksOf_any _ _ _ o2.rd).mono ?_; rintro e w3 ⟨r3, rfl, o3, b3⟩
  obtain ⟨A3, c3, rfl⟩ := o3.shape
  go_wp2_with fail
  go_ret
  exact ⟨rfl, below_then b1 (below_then b2 b3)⟩
set_option maxHeartbeats 1000000 in
theorem implStat_major (nm s : ByteArray) (w : World) (hs : s.size ≤ 1099511627776) (hp : DyckP (L s)) (e : nm.toList = [109, 97, 106, 111, 114]) :
    Calls Try.prog 209 #[.string nm, .string s] w fun e w' => e = .returned (.int .i64 (statV nm.toList (L s))) ∧ Below w.heap.size w w' := by
  have hl16 := hp.1
  rw [L_len] at hl16
  have HS := Lib.hid (statV_major hp e)
  have f_peaks : (nm.toList == [112, 101, 97, 107, 115]) = false := by rw [e]; rfl
  have f_returns : (nm.toList == [114, 101, 116, 117, 114, 110, 115]) = false := by rw [e]; rfl
  have f_rise : (nm.toList == [114, 105, 115, 101]) = false := by rw [e]; rfl
  have f_area : (nm.toList == [97, 114, 101, 97]) = false := by rw [e]; rfl
  have f_depth : (nm.toList == [100, 101, 112, 116, 104]) = false := by rw [e]; rfl
  have f_leaves : (nm.toList == [108, 101, 97, 118, 101, 115]) = false := by rw [e]; rfl
  have f_blocks : (nm.toList == [98, 108, 111, 99, 107, 115]) = false := by rw [e]; rfl
  have f_major : (nm.toList == [109, 97, 106, 111, 114]) = true := beq_iff_eq.2 e
  have f_fall : (nm.toList == [102, 97, 108, 108]) = false := by rw [e]; rfl
  clear e
  have HD := Lib.hid hp
  have HP0 := implIsDyck_any s w
  simp only [decide_eq_true hp] at HP0
  have HP := Lib.hid HP0
  clear hp HP0
  rw [HS.out]
  clear HS
  go_enter Try.func209, Try.ntmps209
  go_wp2_with fail
  refine HP.out.mono ?_; rintro e w1 ⟨rfl, b1⟩
  go_wp2_with fail
  refine (implMajorOf_any s _ hs).mono ?_; rintro e w2 ⟨rfl, b2⟩
  go_wp2_with fail
  go_ret
  exact ⟨rfl, below_then b1 b2⟩
set_option maxHeartbeats 1000000 in
theorem implStat_fall (nm s : ByteArray) (w : World) (hs : s.size ≤ 1099511627776) (hp : DyckP (L s)) (e : nm.toList = [102, 97, 108, 108]) :
    Calls Try.prog 209 #[.string nm, .string s] w fun e w' => e = .returned (.int .i64 (statV nm.toList (L s))) ∧ Below w.heap.size w w' := by
  have hl16 := hp.1
  rw [L_len] at hl16
  have HS := Lib.hid (statV_fall hp e)
  have f_peaks : (nm.toList == [112, 101, 97, 107, 115]) = false := by rw [e]; rfl
  have f_returns : (nm.toList == [114, 101, 116, 117, 114, 110, 115]) = false := by rw [e]; rfl
  have f_rise : (nm.toList == [114, 105, 115, 101]) = false := by rw [e]; rfl
  have f_area : (nm.toList == [97, 114, 101, 97]) = false := by rw [e]; rfl
  have f_depth : (nm.toList == [100, 101, 112, 116, 104]) = false := by rw [e]; rfl
  have f_leaves : (nm.toList == [108, 101, 97, 118, 101, 115]) = false := by rw [e]; rfl
  have f_blocks : (nm.toList == [98, 108, 111, 99, 107, 115]) = false := by rw [e]; rfl
  have f_major : (nm.toList == [109, 97, 106, 111, 114]) = false := by rw [e]; rfl
  have f_fall : (nm.toList == [102, 97, 108, 108]) = true := beq_iff_eq.2 e
  clear e
  have HD := Lib.hid hp
  have HP0 := implIsDyck_any s w
  simp only [decide_eq_true hp] at HP0
  have HP := Lib.hid HP0
  clear hp HP0
  rw [HS.out]
  clear HS
  go_enter Try.func209, Try.ntmps209
  go_wp2_with fail
  refine HP.out.mono ?_; rintro e w1 ⟨rfl, b1⟩
  have B := Lib.hid b1
  go_wp2_with fail
  go_loopw [12] (fun i wr => ∃ k : Nat, k ≤ s.size ∧ i = .int .i64 k ∧ Hid (∀ j (hj : s.size - 1 - j < s.size), j < k → s[s.size - 1 - j].toNat = 100) ∧ wr = w1) (fun i _ => s.size - (intOf i).toNat)
  case atStart => exact ⟨0, by omega, rfl, Lib.hid (fun j _ h => absurd h (by omega)), rfl⟩
  case round =>
    obtain ⟨k, hk, rfl, HA, rfl⟩ := hrel
    by_cases hlt : k < s.size
    · have hk1 : s.size - 1 - k < s.size := by omega
      have hq : (s.size : Int) - 1 - (k : Int) = ((s.size - 1 - k : Nat) : Int) := by omega
      by_cases hu : s[s.size - 1 - k].toNat = 100
      · have HA' : Hid (∀ j (hj : s.size - 1 - j < s.size), j < k + 1 → s[s.size - 1 - j].toNat = 100) := Lib.hid (fun j hj hjk => by
          rcases Nat.lt_or_ge j k with h | h
          · exact HA.out j hj h
          · obtain rfl : j = k := by omega
            exact hu)
        have f1 : (((s[s.size - 1 - k].toNat : Nat) : Int) == 100) = true := by simp; omega
        clear hu
        go_wp2_with fail
        go_roundw
        case rel => exact ⟨k + 1, by omega, by go_num, HA', trivial⟩
        case measure => simp [intOf]; omega
      · have HV := Lib.hid (show runD (L s) = k from runD_at hk HA.out (fun _ _ => hu))
        have f1 : (((s[s.size - 1 - k].toNat : Nat) : Int) == 100) = false := by simp; omega
        clear hu
        go_wp2_with fail
        go_ret
        exact ⟨ret_int (by rw [HV.out]), B.out⟩
    · have hke : k = s.size := by omega
      have HV := Lib.hid (show runD (L s) = k from runD_at hk HA.out (fun _ h => absurd h (by omega)))
      subst hke
      go_wp2_with fail
      go_ret
      exact ⟨ret_int (by rw [HV.out]), B.out⟩
set_option maxHeartbeats 1000000 in
theorem implStatisticOf_any (nm s : ByteArray) (w : World) (_hn : nm.size ≤ 1099511627776) (hs : s.size ≤ 1099511627776) :
    Calls Try.prog 209 #[.string nm, .string s] w fun e w' => e = .returned (.int .i64 (statV nm.toList (L s))) ∧ Below w.heap.size w w' := by
  by_cases hp : DyckP (L s)
  · by_cases hi : isName nm.toList
    · rcases hi with e | e | e | e | e | e | e | e | e
      · exact implStat_peaks nm s w hs hp e
      · exact implStat_returns nm s w hs hp e
      · exact implStat_rise nm s w hs hp e
      · exact implStat_area nm s w hs hp e
      · exact implStat_depth nm s w hs hp e
      · exact implStat_leaves nm s w hs hp e
      · exact implStat_blocks nm s w hs hp e
      · exact implStat_major nm s w hs hp e
      · exact implStat_fall nm s w hs hp e
    · have HS := Lib.hid (statV_other (l := L s) hi)
      unfold isName at hi
      simp only [not_or] at hi
      obtain ⟨e0, e1, e2, e3, e4, e5, e6, e7, e8⟩ := hi
      have f_peaks : (nm.toList == [112, 101, 97, 107, 115]) = false := beq_eq_false_iff_ne.2 e0
      have f_returns : (nm.toList == [114, 101, 116, 117, 114, 110, 115]) = false := beq_eq_false_iff_ne.2 e1
      have f_rise : (nm.toList == [114, 105, 115, 101]) = false := beq_eq_false_iff_ne.2 e2
      have f_area : (nm.toList == [97, 114, 101, 97]) = false := beq_eq_false_iff_ne.2 e3
      have f_depth : (nm.toList == [100, 101, 112, 116, 104]) = false := beq_eq_false_iff_ne.2 e4
      have f_leaves : (nm.toList == [108, 101, 97, 118, 101, 115]) = false := beq_eq_false_iff_ne.2 e5
      have f_blocks : (nm.toList == [98, 108, 111, 99, 107, 115]) = false := beq_eq_false_iff_ne.2 e6
      have f_major : (nm.toList == [109, 97, 106, 111, 114]) = false := beq_eq_false_iff_ne.2 e7
      have f_fall : (nm.toList == [102, 97, 108, 108]) = false := beq_eq_false_iff_ne.2 e8
      have HP0 := implIsDyck_any s w
      simp only [decide_eq_true hp] at HP0
      have HP := Lib.hid HP0
      clear hp HP0 e0 e1 e2 e3 e4 e5 e6 e7 e8
      rw [HS.out]
      clear HS
      go_enter Try.func209, Try.ntmps209
      go_wp2_with fail
      refine HP.out.mono ?_; rintro e w1 ⟨rfl, b1⟩
      go_wp2_with fail
      go_ret
      exact ⟨rfl, b1⟩
  · have HS := Lib.hid (statV_none (nm := nm.toList) hp)
    have HP0 := implIsDyck_any s w
    simp only [decide_eq_false hp] at HP0
    have HP := Lib.hid HP0
    clear hp HP0
    rw [HS.out]
    clear HS
    go_enter Try.func209, Try.ntmps209
    go_wp2_with fail
    refine HP.out.mono ?_; rintro e w1 ⟨rfl, b1⟩
    go_wp2_with fail
    go_ret
    exact ⟨rfl, b1⟩
end Go.Proofs.Ytngfkajfbgfncaa
