/- Contracts of the draws of partitions. No condition. -/
import Derived.Test.YtnkkgfeegaiakaaDrawBase
import Derived.Test.YtnkkgfeegaiakaaPartOf
namespace Go.Proofs.Ytnkkgfeegaiakaa
open Go.RowKit
theorem parR_len (l : List UInt8) (h : l.length ≤ 12) : (parR l).1.length ≤ 6 := by
  unfold parR
  by_cases hd : DyckP l
  · rw [if_pos hd]
    show (rnL _).length ≤ 6
    obtain ⟨pt, hq⟩ := QInv.all hd l.length (Nat.le_refl _)
    rw [rnL_len, hq.len]; omega
  · rw [if_neg hd]; simp
theorem l8Draw_any (cb : Nat) (bs : List UInt8) (w : World) (hc : CurAt w cb bs) : Calls Try.prog 242 #[.pointer (some ⟨cb, 0, none⟩)] w (RetDI w cb bs fun xs => xs.length ≤ 6) := by
  go_enter Try.func242, Try.ntmps242
  go_wp2_with fail
  refine (l2Path_any cb bs w hc).mono ?_; rintro e w1 ⟨s, rfl, hs, c1, g1⟩
  go_wp2_with fail
  refine (specPartitionOf_any s w1 (by omega)).mono ?_; rintro e w2 ⟨r, rfl, o2, b2⟩
  have hl := parR_len (L s) (by rw [L_len]; exact hs)
  go_wp2_with fail
  go_ret
  exact ⟨_, _, rfl, o2.mono g1.size, hl, c1.below b2, grown_trans_row g1 (grown_below b2)⟩
set_option maxRecDepth 8000 in
set_option maxHeartbeats 1600000 in
theorem l8Any_any (cb : Nat) (bs : List UInt8) (w : World) (hc : CurAt w cb bs) : Calls Try.prog 205 #[.pointer (some ⟨cb, 0, none⟩)] w (RetDI w cb bs fun xs => xs.length ≤ 6) := by
  have hcb := hc.lt
  go_enter Try.func205, Try.ntmps205
  go_wp2_with fail
  refine (l8Draw_any cb bs w hc).mono ?_; rintro e w1 ⟨r, xs, rfl, o1, hl, c1, G1⟩
  go_wp2_with fail
  refine (l1Once_any cb 3 bs _ c1 (by omega) (by omega)).mono ?_; rintro e w2 ⟨z, rfl, c2, g2⟩
  have o2 := o1.cur g2 hcb
  have G2 := grown_trans_row G1 g2
  clear o1 c1 G1 g2 hc
  cases z
  · skip
    by_cases hp : 0 < xs.length
    · have hpi : (0 : Int) < (xs.length : Int) := by omega
      obtain ⟨g, cap, rfl, hgb⟩ := o2.shapeP hp
      have HO := Lib.hid (l1Once_any cb 10 bs _ c2 (by omega) (by omega))
      go_wp2_with (go_at_call 237; refine HO.out.mono ?_; rintro e w5 ⟨z5, rfl, c5, g5⟩; have o5 := o2.cur g5 hcb; have G5 := grown_trans_row G2 g5)
      · clear HO
        go_wp2_with (first
          | (go_at_call 188; refine (l1Below_any cb xs.length bs _ c5 hp (by omega)).mono ?_; rintro e w6 ⟨x6, rfl, hx6, c6, g6⟩; have o6 := o5.cur g6 hcb; have G6 := grown_trans_row G5 g6; have hxi : (x6 : Int) < (xs.length : Int) := (by omega); have c7 := c6.grown (row := none) (World.grownBy_alloc w6 (.cells #[.int .i64 (-1), .int .i64 0, .int .i64 7, .int .i64 9223372036854775807] 3) none) (fun r e => by cases e); have o7 := o6.below ((Below.refl _ _).alloc (Nat.le_refl _) (.cells #[.int .i64 (-1), .int .i64 0, .int .i64 7, .int .i64 9223372036854775807] 3)); have G7 := grown_trans_row G6 (grown_alloc w6 (.cells #[.int .i64 (-1), .int .i64 0, .int .i64 7, .int .i64 9223372036854775807] 3) _); have hP : RdI (w6.alloc (.cells #[.int .i64 (-1), .int .i64 0, .int .i64 7, .int .i64 9223372036854775807] 3)) (.slice (some ⟨w6.heap.size, 0, none⟩) 4 4) [-1, 0, 7, 9223372036854775807] := OwI.rd (OwR.lit (e := 3) (f := Value.int .i64) w6 [-1, 0, 7, 9223372036854775807] w6.heap.size (Nat.le_refl _) (by simp)); have hPne : (Value.slice (some ⟨w6.heap.size, 0, none⟩) 4 4).ownBlock ≠ some cb := (by have := c6.lt; simp [Value.ownBlock]; omega))
          | (go_at_call 238; refine (l1PickInt_any cb bs _ c7 _ [-1, 0, 7, 9223372036854775807] hP hPne (by simp) (by simp)).mono ?_; rintro e w8 ⟨y, hy, rfl, c8, g8⟩; have o8 := o7.cur g8 hcb; have G8 := grown_trans_row G7 g8; have q2 := o8.cellAt x6 hx6; have q3 := o8.frozenAt x6))
        go_ret
        exact ⟨_, _, rfl, (o8.stored x6 y).1, by simpa using hl, c8.other (base := w.heap.size) (v := .slice (some ⟨g, 0, none⟩) xs.length cap) (o8.stored x6 y).2 (fun r e => by have e : g = r := Option.some.inj e; omega) hcb, grown_new (base := w.heap.size) (v := .slice (some ⟨g, 0, none⟩) xs.length cap) G8 (o8.stored x6 y).2 (fun r e => by have e : g = r := Option.some.inj e; omega) (Nat.le_refl _)⟩
      · clear HO
        go_ret
        exact ⟨_, _, rfl, o5, hl, c5, G5⟩
    · have hpi : ¬ (0 : Int) < (xs.length : Int) := by omega
      have HOW := Lib.hid o2
      obtain ⟨A0, n0, rfl, _⟩ := o2.rd
      go_wp2_with fail
      go_ret
      exact ⟨_, _, rfl, HOW.out, hl, c2, G2⟩
  · clear o2 hl
    go_wp2_with fail
    have own0 := OwI.empty_ w2 w.heap.size G2.size
    have c3 := c2.grown (row := none) (World.grownBy_alloc w2 (.cells #[] 3) none) (fun r e => by cases e)
    have G3 := grown_trans_row G2 (grown_alloc w2 (.cells #[] 3) _)
    clear c2 G2
    generalize hw3 : w2.alloc (.cells #[] 3) = w3 at *
    refine (l1Below_any cb 6 bs _ c3 (by omega) (by omega)).mono ?_; rintro e w4 ⟨n, rfl, hn, c4, g4⟩
    have own4 := own0.cur g4 hcb
    have G4 := grown_trans_row G3 g4
    clear own0 c3 G3 g4
    go_wp2_with fail
    go_loopw [3, 4, 5] (fun v nx i wr => ∃ (l : List Int) (k y : Nat), i = .int .i64 (k : Int) ∧ nx = .int .i64 (y : Int) ∧ y ≤ l.length ∧ l.length + k ≤ 5 ∧ OwI wr w.heap.size v l ∧ CurAt wr cb bs ∧ w.grownBy wr (some cb)) (fun _ _ i _ => (intOf i).toNat)
    case atStart => exact ⟨[], n, 0, rfl, rfl, by simp, by simp; omega, own4, c4, G4⟩
    case round =>
      clear own4 c4 G4
      obtain ⟨l, k, y, rfl, rfl, hy, hlk, hown, hcu, hg⟩ := hrel
      by_cases hk : 0 < k
      · have hki : (0 : Int) < (k : Int) := by omega
        have HB := Lib.hid (l1Below_any cb (y + 1) bs wr hcu (by omega) (by omega))
        have ey : (((y + 1 : Nat) : Int)) = (y : Int) + 1 := by omega
        rw [ey] at HB
        clear ey
        go_wp2_with (first
          | (go_at_call 188; refine HB.out.mono ?_; rintro e w6 ⟨x, rfl, hx, c6, g6⟩; have own6 := hown.cur g6 hcb; have G6 := grown_trans_row hg g6; have hsz6 : w.heap.size ≤ w6.heap.size := G6.size; have hln : l.length < 1099511627776 := (by omega))
          | (at_builtin; refine wpList_appI _ rfl _ _ rfl w.heap.size _ l rfl own6 _ rfl rfl hln hsz6 ?_))
        intro v7 w7 o7 g7 a7
        have c7 := c6.other (base := w.heap.size) g7 (fun r e => (own6.lt r e).1) hcb
        have G7 := grown_new (base := w.heap.size) G6 g7 (fun r e => (own6.lt r e).1) (Nat.le_refl _)
        clear own6 G6 c6 g7 a7 hown hg hcu g6 HB
        have hmx : max (y : Int) ((x : Int) + 1) = ((max y (x + 1) : Nat) : Int) := by omega
        go_wp2_with fail
        go_roundw
        case rel => exact ⟨l ++ [(x : Int)], k - 1, max y (x + 1), by go_num, by first | rfl | go_num, by simp; omega, by simp; omega, o7, c7, G7⟩
        case measure => simp [intOf]; omega
      · have hki : ¬ (0 : Int) < (k : Int) := by omega
        have hl : l.length ≤ 6 := by omega
        by_cases hp : 0 < l.length
        · have hpi : (0 : Int) < (l.length : Int) := by omega
          obtain ⟨g, cap, rfl, hgb⟩ := hown.shapeP hp
          have HO := Lib.hid (l1Once_any cb 10 bs _ hcu (by omega) (by omega))
          go_wp2_with (go_at_call 237; refine HO.out.mono ?_; rintro e w5 ⟨z5, rfl, c5, g5⟩; have o5 := hown.cur g5 hcb; have G5 := grown_trans_row hg g5)
          · clear HO
            go_wp2_with (first
              | (go_at_call 188; refine (l1Below_any cb l.length bs _ c5 hp (by omega)).mono ?_; rintro e w6 ⟨x6, rfl, hx6, c6, g6⟩; have o6 := o5.cur g6 hcb; have G6 := grown_trans_row G5 g6; have hxi : (x6 : Int) < (l.length : Int) := (by omega); have c7 := c6.grown (row := none) (World.grownBy_alloc w6 (.cells #[.int .i64 (-1), .int .i64 0, .int .i64 7, .int .i64 9223372036854775807] 3) none) (fun r e => by cases e); have o7 := o6.below ((Below.refl _ _).alloc (Nat.le_refl _) (.cells #[.int .i64 (-1), .int .i64 0, .int .i64 7, .int .i64 9223372036854775807] 3)); have G7 := grown_trans_row G6 (grown_alloc w6 (.cells #[.int .i64 (-1), .int .i64 0, .int .i64 7, .int .i64 9223372036854775807] 3) _); have hP : RdI (w6.alloc (.cells #[.int .i64 (-1), .int .i64 0, .int .i64 7, .int .i64 9223372036854775807] 3)) (.slice (some ⟨w6.heap.size, 0, none⟩) 4 4) [-1, 0, 7, 9223372036854775807] := OwI.rd (OwR.lit (e := 3) (f := Value.int .i64) w6 [-1, 0, 7, 9223372036854775807] w6.heap.size (Nat.le_refl _) (by simp)); have hPne : (Value.slice (some ⟨w6.heap.size, 0, none⟩) 4 4).ownBlock ≠ some cb := (by have := c6.lt; simp [Value.ownBlock]; omega))
              | (go_at_call 238; refine (l1PickInt_any cb bs _ c7 _ [-1, 0, 7, 9223372036854775807] hP hPne (by simp) (by simp)).mono ?_; rintro e w8 ⟨y, hy, rfl, c8, g8⟩; have o8 := o7.cur g8 hcb; have G8 := grown_trans_row G7 g8; have q2 := o8.cellAt x6 hx6; have q3 := o8.frozenAt x6))
            go_ret
            exact ⟨_, _, rfl, (o8.stored x6 y).1, by simpa using hl, c8.other (base := w.heap.size) (v := .slice (some ⟨g, 0, none⟩) l.length cap) (o8.stored x6 y).2 (fun r e => by have e : g = r := Option.some.inj e; omega) hcb, grown_new (base := w.heap.size) (v := .slice (some ⟨g, 0, none⟩) l.length cap) G8 (o8.stored x6 y).2 (fun r e => by have e : g = r := Option.some.inj e; omega) (Nat.le_refl _)⟩
          · clear HO
            go_ret
            exact ⟨_, _, rfl, o5, hl, c5, G5⟩
        · have hpi : ¬ (0 : Int) < (l.length : Int) := by omega
          have HOW := Lib.hid hown
          obtain ⟨A0, n0, rfl, _⟩ := hown.rd
          go_wp2_with fail
          go_ret
          exact ⟨_, _, rfl, HOW.out, hl, hcu, hg⟩
theorem DrawTurnPartition_any (v : Value) (bs : List UInt8) (w : World) (hv : RdR bf w v bs) : Calls Try.prog 90 #[v] w (RetXI w fun xs => xs.length ≤ 6) := by
  go_enter Try.func90, Try.ntmps90
  go_wp2_with fail
  refine (l1New_any v bs w hv).mono ?_; rintro e w1 ⟨rfl, c1, b1⟩
  go_wp2_with fail
  refine (l8Any_any w.heap.size bs w1 c1).mono ?_; rintro e w2 ⟨r, xs, rfl, o2, hx, c2, g2⟩
  go_wp2_with fail
  go_ret
  exact ⟨r, xs, rfl, o2.rd, hx, below_cur b1 g2⟩
theorem DrawPathOfPartition_any (v : Value) (bs : List UInt8) (w : World) (hv : RdR bf w v bs) : Calls Try.prog 93 #[v] w (RetXI w fun xs => xs.length ≤ 6) := by
  go_enter Try.func93, Try.ntmps93
  go_wp2_with fail
  refine (l1New_any v bs w hv).mono ?_; rintro e w1 ⟨rfl, c1, b1⟩
  go_wp2_with fail
  refine (l8Any_any w.heap.size bs w1 c1).mono ?_; rintro e w2 ⟨r, xs, rfl, o2, hx, c2, g2⟩
  go_wp2_with fail
  go_ret
  exact ⟨r, xs, rfl, o2.rd, hx, below_cur b1 g2⟩
theorem DrawMatchingOfPartition_any (v : Value) (bs : List UInt8) (w : World) (hv : RdR bf w v bs) : Calls Try.prog 113 #[v] w (RetXI w fun xs => xs.length ≤ 6) := by
  go_enter Try.func113, Try.ntmps113
  go_wp2_with fail
  refine (l1New_any v bs w hv).mono ?_; rintro e w1 ⟨rfl, c1, b1⟩
  go_wp2_with fail
  refine (l8Any_any w.heap.size bs w1 c1).mono ?_; rintro e w2 ⟨r, xs, rfl, o2, hx, c2, g2⟩
  go_wp2_with fail
  go_ret
  exact ⟨r, xs, rfl, o2.rd, hx, below_cur b1 g2⟩
set_option maxRecDepth 8000 in
set_option maxHeartbeats 1600000 in
theorem DrawRenumberBlocks_any (v : Value) (bs : List UInt8) (w : World) (hv : RdR bf w v bs) : Calls Try.prog 95 #[v] w (RetXI w fun xs => xs.length ≤ 9) := by
  go_enter Try.func95, Try.ntmps95
  go_wp2_with fail
  refine (l1New_any v bs w hv).mono ?_; rintro e w1 ⟨rfl, c1, b1⟩
  have hw1 := c1.lt
  go_wp2_with fail
  have own0 := OwI.empty_ w1 w1.heap.size (Nat.le_refl _)
  have c2 := c1.grown (row := none) (World.grownBy_alloc w1 (.cells #[] 3) none) (fun r e => by cases e)
  have G2 := grown_alloc w1 (.cells #[] 3) (some w.heap.size)
  refine (l1Below_any _ 10 bs _ c2 (by omega) (by omega)).mono ?_; rintro e w4 ⟨n, rfl, hn, c4, g4⟩
  have own4 := own0.cur g4 hw1
  have G4 := grown_trans_row G2 g4
  clear own0 c2 G2 g4 c1
  go_wp2_with fail
  go_loopw [4, 5] (fun v i wr => ∃ (l : List Int) (k : Nat), i = .int .i64 (k : Int) ∧ l.length + k ≤ 9 ∧ OwI wr w1.heap.size v l ∧ CurAt wr w.heap.size bs ∧ w1.grownBy wr (some w.heap.size)) (fun _ i _ => (intOf i).toNat)
  case atStart => exact ⟨[], n, rfl, by simp; omega, own4, c4, G4⟩
  case round =>
    clear own4 c4 G4
    obtain ⟨l, k, rfl, hlk, hown, hcu, hg⟩ := hrel
    by_cases hk : 0 < k
    · have hki : (0 : Int) < (k : Int) := by omega
      have HB := Lib.hid (l1Below_any _ 5 bs wr hcu (by omega) (by omega))
      go_wp2_with (first
        | (go_at_call 188; refine HB.out.mono ?_; rintro e w6 ⟨x, rfl, hx, c6, g6⟩; have own6 := hown.cur g6 hw1; have G6 := grown_trans_row hg g6; have hsz6 : w1.heap.size ≤ w6.heap.size := G6.size; have hln : l.length < 1099511627776 := (by omega))
        | (at_builtin; refine wpList_appI _ rfl _ _ rfl w1.heap.size _ l rfl own6 _ rfl rfl hln hsz6 ?_))
      intro v7 w7 o7 g7 a7
      have c7 := c6.other (base := w1.heap.size) g7 (fun r e => (own6.lt r e).1) hw1
      have G7 := grown_new (base := w1.heap.size) G6 g7 (fun r e => (own6.lt r e).1) (Nat.le_refl _)
      clear own6 G6 c6 g7 a7 hown hg hcu g6 HB
      go_wp2_with fail
      go_roundw
      case rel => exact ⟨l ++ [(x : Int) - 2], k - 1, by go_num, by simp; omega, o7, c7, G7⟩
      case measure => simp [intOf]; omega
    · have hki : ¬ (0 : Int) < (k : Int) := by omega
      go_wp2_with fail
      go_ret
      exact ⟨_, l, rfl, hown.rd, by omega, below_cur b1 hg⟩
end Go.Proofs.Ytnkkgfeegaiakaa
