/- Contracts of the draws of wishes. No condition. -/
import Derived.Test.YtnkkgfeegaiakaaDrawBase
namespace Go.Proofs.Ytnkkgfeegaiakaa
open Go.RowKit
theorem lit4 (w6 : World) (a b c d : Int) : RdI (w6.alloc (.cells #[.int .i64 a, .int .i64 b, .int .i64 c, .int .i64 d] 3)) (.slice (some ⟨w6.heap.size, 0, none⟩) 4 4) [a, b, c, d] := OwI.rd (OwR.lit (e := 3) (f := Value.int .i64) w6 [a, b, c, d] w6.heap.size (Nat.le_refl _) (by simp))
set_option maxRecDepth 8000 in
set_option maxHeartbeats 8000000 in
theorem l12Any_any (cb : Nat) (bs : List UInt8) (w : World) (hc : CurAt w cb bs) : Calls Try.prog 213 #[.pointer (some ⟨cb, 0, none⟩)] w (RetDI w cb bs fun xs => xs.length ≤ 6) := by
  have hcb := hc.lt
  have own0 := OwI.empty_ w w.heap.size (Nat.le_refl _)
  have c0 := hc.grown (row := none) (World.grownBy_alloc w (.cells #[] 3) none) (fun r e => by cases e)
  have G0 : w.grownBy (w.alloc (.cells #[] 3)) (some cb) := grown_alloc w _ _
  go_enter Try.func213, Try.ntmps213
  go_wp2_with fail
  refine (l1Below_any cb 7 bs _ c0 (by omega) (by omega)).mono ?_; rintro e w1 ⟨n, rfl, hn, c1, g1⟩
  have own1 := own0.cur g1 hcb
  have G1 := grown_trans_row G0 g1
  clear own0 c0 G0 g1 hc
  go_wp2_with fail
  go_loopw [3, 5] (fun v i wr => ∃ l : List Int, i = .int .i64 (l.length : Int) ∧ l.length ≤ n ∧ OwI wr w.heap.size v l ∧ (∃ g cap, v = .slice (some ⟨g, 0, none⟩) l.length cap) ∧ CurAt wr cb bs ∧ w.grownBy wr (some cb)) (fun _ i _ => n - (intOf i).toNat)
  case atStart => exact ⟨[], rfl, by simp, own1, ⟨_, _, rfl⟩, c1, G1⟩
  case round =>
    clear own1 c1 G1
    obtain ⟨l, rfl, hln, hown, ⟨g, cap, rfl⟩, hcu, hg⟩ := hrel
    by_cases hk : l.length < n
    · have hki : (l.length : Int) < (n : Int) := by omega
      by_cases hmn : n ≤ 1 + l.length
      · have HB := Lib.hid (l1Below_any cb n bs wr hcu (by omega) (by omega))
        have hmi : (n : Int) ≤ 1 + (l.length : Int) := by omega
        have hmx : min (n : Int) (1 + (l.length : Int)) = (n : Int) := by omega
        go_wp2_with fail
        refine HB.out.mono ?_; rintro e w6 ⟨x, rfl, hx, c6, g6⟩
        have own6 := hown.cur g6 hcb
        have G6 := grown_trans_row hg g6
        have hsz6 : w.heap.size ≤ w6.heap.size := G6.size
        have hln : l.length < 1099511627776 := by omega
        clear hmx hmi
        go_wp2_with (at_builtin; refine wpList_appI _ rfl _ _ rfl w.heap.size _ l rfl own6 _ rfl rfl hln hsz6 ?_)
        intro v7 w7 o7 g7 a7
        have c7 := c6.other (base := w.heap.size) g7 (fun r e => (own6.lt r e).1) hcb
        have G7 := grown_new (base := w.heap.size) G6 g7 (fun r e => (own6.lt r e).1) (Nat.le_refl _)
        obtain ⟨_, g8, cap8, rfl⟩ := a7
        clear own6 G6 c6 g7 hown hg hcu g6 HB
        go_wp2_with fail
        go_roundw
        case rel => exact ⟨l ++ [1 + (x : Int)], by simp, by simp; omega, o7, ⟨g8, cap8, by simp⟩, c7, G7⟩
        case measure => simp [intOf]; omega
      · have HB := Lib.hid (l1Below_any cb (1 + l.length) bs wr hcu (by omega) (by omega))
        rw [show ((1 + l.length : Nat) : Int) = 1 + (l.length : Int) by omega] at HB
        have hmi : ¬ (n : Int) ≤ 1 + (l.length : Int) := by omega
        have hmx : min (n : Int) (1 + (l.length : Int)) = 1 + (l.length : Int) := by omega
        go_wp2_with fail
        refine HB.out.mono ?_; rintro e w6 ⟨x, rfl, hx, c6, g6⟩
        have own6 := hown.cur g6 hcb
        have G6 := grown_trans_row hg g6
        have hsz6 : w.heap.size ≤ w6.heap.size := G6.size
        have hln : l.length < 1099511627776 := by omega
        clear hmx hmi
        go_wp2_with (at_builtin; refine wpList_appI _ rfl _ _ rfl w.heap.size _ l rfl own6 _ rfl rfl hln hsz6 ?_)
        intro v7 w7 o7 g7 a7
        have c7 := c6.other (base := w.heap.size) g7 (fun r e => (own6.lt r e).1) hcb
        have G7 := grown_new (base := w.heap.size) G6 g7 (fun r e => (own6.lt r e).1) (Nat.le_refl _)
        obtain ⟨_, g8, cap8, rfl⟩ := a7
        clear own6 G6 c6 g7 hown hg hcu g6 HB
        go_wp2_with fail
        go_roundw
        case rel => exact ⟨l ++ [1 + (x : Int)], by simp, by simp; omega, o7, ⟨g8, cap8, by simp⟩, c7, G7⟩
        case measure => simp [intOf]; omega
    · have hki : ¬ (l.length : Int) < (n : Int) := by omega
      obtain rfl : n = l.length := by omega
      have h6 : l.length ≤ 6 := by omega
      have hgb : w.heap.size ≤ g := (hown.lt g rfl).1
      by_cases hp : 0 < l.length
      · have hpi : (0 : Int) < (l.length : Int) := by omega
        have HO := Lib.hid (l1Below_any cb 8 bs _ hcu (by omega) (by omega))
        go_wp2_with fail
        refine HO.out.mono ?_; rintro e w5 ⟨x5, rfl, hx5, c5, g5⟩
        have o5 := hown.cur g5 hcb
        have G5 := grown_trans_row hg g5
        clear HO hown hcu hg g5
        by_cases x0 : x5 = 0
        · have f0 : ((x5 : Int) == 0) = true := beq_iff_eq.2 (by omega)
          have cA := Lib.hid (c5.below ((Below.refl _ _).alloc (Nat.le_refl _) (.cells #[.int .i64 0, .int .i64 (l.length : Int), .int .i64 ((l.length : Int) + 1), .int .i64 9223372036854775807] 3)))
          have oA := o5.below ((Below.refl _ _).alloc (Nat.le_refl _) (.cells #[.int .i64 0, .int .i64 (l.length : Int), .int .i64 ((l.length : Int) + 1), .int .i64 9223372036854775807] 3))
          have gA := grown_trans_row G5 (grown_alloc w5 (.cells #[.int .i64 0, .int .i64 (l.length : Int), .int .i64 ((l.length : Int) + 1), .int .i64 9223372036854775807] 3) _)
          have HP := Lib.hid (l1PickInt_any cb bs _ cA.out _ [0, (l.length : Int), (l.length : Int) + 1, 9223372036854775807] (lit4 w5 _ _ _ _) (by have := c5.lt; simp [Value.ownBlock]; omega) (by simp) (by simp))
          clear x0 c5 o5 G5
          go_wp2_with (go_at_call 238; refine HP.out.mono ?_; rintro e w8 ⟨y, hy, rfl, c8, g8⟩; have o8 := oA.cur g8 hcb; have G8 := grown_trans_row gA g8; have q2 := o8.cellAt 0 hp; have q3 := o8.frozenAt 0)
          go_ret
          exact ⟨_, _, rfl, (o8.stored 0 y).1, by simpa using h6, c8.other (base := w.heap.size) (v := .slice (some ⟨g, 0, none⟩) l.length cap) (o8.stored 0 y).2 (fun r e => by have e : g = r := Option.some.inj e; omega) hcb, grown_new (base := w.heap.size) (v := .slice (some ⟨g, 0, none⟩) l.length cap) G8 (o8.stored 0 y).2 (fun r e => by have e : g = r := Option.some.inj e; omega) (Nat.le_refl _)⟩
        · have f0 : ((x5 : Int) == 0) = false := beq_eq_false_iff_ne.2 (by omega)
          by_cases x1 : x5 = 1
          · have f1 : ((x5 : Int) == 1) = true := beq_iff_eq.2 (by omega)
            clear x0 x1
            obtain ⟨m, hm⟩ : ∃ m, l.length = m + 1 := ⟨l.length - 1, by omega⟩
            have hml : m < l.length := by omega
            have q2 := o5.cellAt m hml
            have q3 := o5.frozenAt m
            have HS := Lib.hid (o5.stored m (l.length : Int))
            have s2 := HS.out.1.cellAt 0 (by rw [List.length_set]; exact hp)
            have s3 := HS.out.1.frozenAt 0
            have HS2 := Lib.hid (HS.out.1.stored 0 (l.length : Int))
            have ew : IntKind.i64.wrap ((l.length : Int) - 1) = (m : Int) := by rw [IntWalk.i64_in _ (by omega)]; omega
            have hmi : (m : Int) < (l.length : Int) := by omega
            have HM := Lib.hid hm
            clear hm
            go_wp2_with fail
            go_ret
            refine ⟨_, _, rfl, HS2.out.1, by simpa using h6, ?_, ?_⟩
            · exact (c5.other (base := w.heap.size) (v := .slice (some ⟨g, 0, none⟩) l.length cap) HS.out.2 (fun r e => by have e : g = r := Option.some.inj e; omega) hcb).other (base := w.heap.size) (v := .slice (some ⟨g, 0, none⟩) l.length cap) HS2.out.2 (fun r e => by have e : g = r := Option.some.inj e; omega) hcb
            · exact grown_new (base := w.heap.size) (v := .slice (some ⟨g, 0, none⟩) l.length cap) (grown_new (base := w.heap.size) (v := .slice (some ⟨g, 0, none⟩) l.length cap) G5 HS.out.2 (fun r e => by have e : g = r := Option.some.inj e; omega) (Nat.le_refl _)) HS2.out.2 (fun r e => by have e : g = r := Option.some.inj e; omega) (Nat.le_refl _)
          · have f1 : ((x5 : Int) == 1) = false := beq_eq_false_iff_ne.2 (by omega)
            clear x0 x1
            go_wp2_with fail
            go_ret
            exact ⟨_, _, rfl, o5, h6, c5, G5⟩
      · have hpi : ¬ (0 : Int) < (l.length : Int) := by omega
        go_wp2_with fail
        go_ret
        exact ⟨_, _, rfl, hown, h6, hcu, hg⟩
theorem DrawPlacesOf_any (v : Value) (bs : List UInt8) (w : World) (hv : RdR bf w v bs) : Calls Try.prog 124 #[v] w (RetXI w fun xs => xs.length ≤ 6) := by
  go_enter Try.func124, Try.ntmps124
  go_wp2_with fail
  refine (l1New_any v bs w hv).mono ?_; rintro e w1 ⟨rfl, c1, b1⟩
  go_wp2_with fail
  refine (l12Any_any w.heap.size bs w1 c1).mono ?_; rintro e w2 ⟨r, xs, rfl, o2, hx, c2, g2⟩
  go_wp2_with fail
  go_ret
  exact ⟨r, xs, rfl, o2.rd, hx, below_cur b1 g2⟩
theorem DrawPathOfParking_any (v : Value) (bs : List UInt8) (w : World) (hv : RdR bf w v bs) : Calls Try.prog 136 #[v] w (RetXI w fun xs => xs.length ≤ 6) := by
  go_enter Try.func136, Try.ntmps136
  go_wp2_with fail
  refine (l1New_any v bs w hv).mono ?_; rintro e w1 ⟨rfl, c1, b1⟩
  go_wp2_with fail
  refine (l12Any_any w.heap.size bs w1 c1).mono ?_; rintro e w2 ⟨r, xs, rfl, o2, hx, c2, g2⟩
  go_wp2_with fail
  go_ret
  exact ⟨r, xs, rfl, o2.rd, hx, below_cur b1 g2⟩
theorem DrawCountParking_any (v : Value) (bs : List UInt8) (w : World) (hv : RdR bf w v bs) : Calls Try.prog 139 #[v] w fun e w' => ∃ x : Nat, e = .returned (.int .i64 ((x : Int) - 1)) ∧ x < 9 ∧ Below w.heap.size w w' := by
  go_enter Try.func139, Try.ntmps139
  go_wp2_with fail
  refine (l1New_any v bs w hv).mono ?_; rintro e w1 ⟨rfl, c1, b1⟩
  go_wp2_with fail
  refine (l1Below_any _ 9 bs _ c1 (by omega) (by omega)).mono ?_; rintro e w2 ⟨x, rfl, hx, c2, g2⟩
  go_wp2_with fail
  go_ret
  exact ⟨x, rfl, hx, below_cur b1 g2⟩
end Go.Proofs.Ytnkkgfeegaiakaa
