/- Contracts of the draws of permutations. No condition. -/
import Derived.Test.YtnkkgfeegaiakaaDrawBase
import Derived.Test.YtnkkgfeegaiakaaPermOf
import Derived.Test.YtnkkgfeegaiakaaParkSort
namespace Go.Proofs.Ytnkkgfeegaiakaa
open Go.RowKit
theorem poR_len (l : List UInt8) (h : l.length ≤ 12) : (poR l).1.length ≤ 6 := by
  unfold poR
  by_cases hd : DyckP l
  · rw [if_pos hd]
    obtain ⟨t, ht⟩ : ∃ t, t = poS l l.length := ⟨_, rfl⟩
    have : ∀ k, (poS l k).p.length = l.length / 2 := by
      intro k
      induction k with
      | zero => simp [poS]
      | succ k ih =>
        by_cases hk : k < l.length
        · rw [poS_succ l k hk]
          unfold poF
          split
          · exact ih
          · simp [ih]
        · have e : poS l (k + 1) = poS l k := by unfold poS; rw [List.take_of_length_le (by omega), List.take_of_length_le (by omega)]
          rw [e]; exact ih
    show (poS l l.length).p.length ≤ 6
    rw [this]; omega
  · rw [if_neg hd]; simp
set_option maxRecDepth 8000 in
set_option maxHeartbeats 1600000 in
theorem l10Any_any (cb : Nat) (bs : List UInt8) (w : World) (hc : CurAt w cb bs) : Calls Try.prog 197 #[.pointer (some ⟨cb, 0, none⟩)] w (RetDI w cb bs fun xs => xs.length ≤ 6) := by
  have hcb := hc.lt
  go_enter Try.func197, Try.ntmps197
  go_wp2_with fail
  refine (l2Path_any cb bs w hc).mono ?_; rintro e w1 ⟨s, rfl, hs, c0, g0⟩
  go_wp2_with fail
  refine (specPermutationOf_any s w1 (by omega)).mono ?_; rintro e w1' ⟨r, rfl, o0, b0⟩
  have hl := poR_len (L s) (by rw [L_len]; exact hs)
  have o1 := o0.mono g0.size
  have c1 := c0.below b0
  have G1 := grown_trans_row g0 (grown_below (cb := cb) b0)
  clear o0 c0 g0 b0
  generalize (poR (L s)).1 = xs at *
  generalize (poR (L s)).2 = zz at *
  go_wp2_with fail
  refine (l1Once_any cb 3 bs _ c1 (by omega) (by omega)).mono ?_; rintro e w2 ⟨z, rfl, c2, g2⟩
  have o2 := o1.cur g2 hcb
  have G2 := grown_trans_row G1 g2
  clear o1 c1 G1 g2 hc
  cases z
  · skip
    by_cases hp : 0 < xs.length
    · have hpi : (0 : Int) < (xs.length : Int) := by omega
      obtain ⟨g, cap, rfl, hgb⟩ := o2.shapeP hp
      have HO := Lib.hid (l1Once_any cb 12 bs _ c2 (by omega) (by omega))
      go_wp2_with (go_at_call 237; refine HO.out.mono ?_; rintro e w5 ⟨z5, rfl, c5, g5⟩; have o5 := o2.cur g5 hcb; have G5 := grown_trans_row G2 g5)
      · clear HO
        obtain ⟨w6, hw6⟩ : ∃ w6, w6 = w5 := ⟨_, rfl⟩
        have c6 : CurAt w6 cb bs := by rw [hw6]; exact c5
        have o6 : OwI w6 w.heap.size (.slice (some ⟨g, 0, none⟩) xs.length cap) xs := by rw [hw6]; exact o5
        have G6 : w.grownBy w6 (some cb) := by rw [hw6]; exact G5
        rw [← hw6]
        clear hw6 c5 o5 G5 g5
        have c7 := c6.grown (row := none) (World.grownBy_alloc w6 (.cells #[.int .i64 (-1), .int .i64 0, .int .i64 1, .int .i64 9223372036854775807] 3) none) (fun r e => by cases e); have o7 := o6.below ((Below.refl _ _).alloc (Nat.le_refl _) (.cells #[.int .i64 (-1), .int .i64 0, .int .i64 1, .int .i64 9223372036854775807] 3)); have G7 := grown_trans_row G6 (grown_alloc w6 (.cells #[.int .i64 (-1), .int .i64 0, .int .i64 1, .int .i64 9223372036854775807] 3) _); have hP : RdI (w6.alloc (.cells #[.int .i64 (-1), .int .i64 0, .int .i64 1, .int .i64 9223372036854775807] 3)) (.slice (some ⟨w6.heap.size, 0, none⟩) 4 4) [-1, 0, 1, 9223372036854775807] := OwI.rd (OwR.lit (e := 3) (f := Value.int .i64) w6 [-1, 0, 1, 9223372036854775807] w6.heap.size (Nat.le_refl _) (by simp)); have hPne : (Value.slice (some ⟨w6.heap.size, 0, none⟩) 4 4).ownBlock ≠ some cb := (by have := c6.lt; simp [Value.ownBlock]; omega)
        go_wp2_with (go_at_call 238; refine (l1PickInt_any cb bs _ c7 _ [-1, 0, 1, 9223372036854775807] hP hPne (by simp) (by simp)).mono ?_; rintro e w8 ⟨y, hy, rfl, c8, g8⟩; have o8 := o7.cur g8 hcb; have G8 := grown_trans_row G7 g8; have q2 := o8.cellAt 0 hp; have q3 := o8.frozenAt 0)
        go_ret
        exact ⟨_, _, rfl, (o8.stored 0 y).1, by simpa using hl, c8.other (base := w.heap.size) (v := .slice (some ⟨g, 0, none⟩) xs.length cap) (o8.stored 0 y).2 (fun r e => by have e : g = r := Option.some.inj e; omega) hcb, grown_new (base := w.heap.size) (v := .slice (some ⟨g, 0, none⟩) xs.length cap) G8 (o8.stored 0 y).2 (fun r e => by have e : g = r := Option.some.inj e; omega) (Nat.le_refl _)⟩
      · clear HO
        go_ret
        exact ⟨_, _, rfl, o5, hl, c5, G5⟩
    · have hpi : ¬ (0 : Int) < (xs.length : Int) := by omega
      have HOW := Lib.hid o2
      obtain ⟨A0, n0, rfl, _⟩ := o2.rd
      go_wp2_with fail
      go_ret
      exact ⟨_, _, rfl, HOW.out, hl, c2, G2⟩
  · clear o2 hl
    go_wp2_with fail
    have own0 := OwI.empty_ w2 w.heap.size G2.size
    have c3 := c2.grown (row := none) (World.grownBy_alloc w2 (.cells #[] 3) none) (fun r e => by cases e)
    have G3 := grown_trans_row G2 (grown_alloc w2 (.cells #[] 3) _)
    clear c2 G2
    obtain ⟨V0, hV0⟩ : ∃ V0 : Value, V0 = .slice (some ⟨w2.heap.size, 0, none⟩) 0 0 := ⟨_, rfl⟩
    generalize hw3 : w2.alloc (.cells #[] 3) = w3 at *
    refine (l1Below_any cb 7 bs _ c3 (by omega) (by omega)).mono ?_; rintro e w4 ⟨n, rfl, hn, c4, g4⟩
    have own4 := own0.cur g4 hcb
    have G4 := grown_trans_row G3 g4
    clear own0 c3 G3 g4
    go_wp2_with fail
    go_loopw [3, 5] (fun v i wr => ∃ (l : List Int) (j : Nat), i = .int .i64 (j : Int) ∧ l.length + j ≤ 6 ∧ OwI wr w.heap.size v l ∧ (∃ g cap, v = .slice (some ⟨g, 0, none⟩) l.length cap) ∧ CurAt wr cb bs ∧ w.grownBy wr (some cb)) (fun _ i _ => (intOf i).toNat)
    case atStart => exact ⟨[], n, rfl, by simp; omega, own4, ⟨_, _, rfl⟩, c4, G4⟩
    case round =>
      clear own4 c4 G4
      obtain ⟨out, j, rfl, hlk, hown, ⟨g, cap, rfl⟩, hcu, hg⟩ := hrel
      by_cases hk : 0 < j
      · have hki : (0 : Int) < (j : Int) := by omega
        have hcap : out.length ≤ cap := by
          obtain ⟨_, _, e, h1, _⟩ := hown.rd
          injection e with e1 e2 e3
          omega
        have HB := Lib.hid (l1Below_any cb (out.length + 1) bs wr hcu (by omega) (by omega))
        have ey : (((out.length + 1 : Nat) : Int)) = (out.length : Int) + 1 := by omega
        rw [ey] at HB
        clear ey
        obtain ⟨k, hsl⟩ : ∃ k, k = out.length := ⟨_, rfl⟩
        rw [← hsl] at HB hlk hcap hown ⊢
        have hsl2 := hsl.symm
        clear hsl
        have hsl := hsl2
        clear hsl2
        go_wp2_with (go_at_call 188; refine HB.out.mono ?_; rintro e w6 ⟨P, rfl, hP, c6, g6⟩)
        have hownD := hown.cur g6 hcb
        have C6 := Lib.hid c6
        have G6 := Lib.hid (grown_trans_row hg g6)
        have hbs : w.heap.size ≤ w6.heap.size := G6.out.size
        have hPk : P ≤ k := by omega
        clear HB hown hg hcu c6 g6 hP
        generalize w6 = wd at *
        have hPc : P ≤ cap := by omega
        obtain ⟨T, hT⟩ : ∃ T, T = out.take P := ⟨_, rfl⟩
        obtain ⟨D, hD⟩ : ∃ D, D = out.drop P := ⟨_, rfl⟩
        have hTl : T.length = P := by rw [hT, List.length_take]; omega
        have hDl : D.length = k - P := by rw [hD, List.length_drop]; omega
        have hrdD := hownD.rd
        have hrdT : RdI wd (.slice (some ⟨g, 0, none⟩) T.length cap) T := by rw [hTl, hT]; exact hrdD.take_ P (by omega)
        skip
        have HRX : Hid (P < cap → RdI wd (.slice (some ⟨g, P, none⟩) D.length (cap - P)) D) := fun _ => by
          have := hrdD.drop_ P (by omega)
          rw [Nat.zero_add, hsl, ← hD] at this
          rw [hDl]; exact this
        have B1 : Below wd.heap.size wd (wd.drew.alloc (.cells #[] 3)) := (below_draws wd 1).alloc (Nat.le_refl _) _
        have s1 : (wd.drew.alloc (.cells #[] 3)).heap.size = wd.heap.size + 1 := by simp
        have B2 : Below wd.heap.size wd ((wd.drew.alloc (.cells #[] 3)).alloc (.cells #[.int .i64 (k : Int)] 3)) := B1.alloc B1.size _
        have BV : Below wd.heap.size wd (wd.drew.alloc (.cells #[.int .i64 (k : Int)] 3)) := (below_draws wd 1).alloc (Nat.le_refl _) _
        have sV : (wd.drew.alloc (.cells #[.int .i64 (k : Int)] 3)).heap.size = wd.heap.size + 1 := by simp
        have B3 : Below wd.heap.size wd ((wd.drew.alloc (.cells #[.int .i64 (k : Int)] 3)).alloc (.cells #[] 3)) := BV.alloc BV.size _
        have own1 : OwI (wd.drew.alloc (.cells #[] 3)) w.heap.size (.slice (some ⟨wd.heap.size, 0, none⟩) 0 0) [] := OwI.empty_ wd.drew w.heap.size hbs
        have own2 : OwI ((wd.drew.alloc (.cells #[] 3)).alloc (.cells #[.int .i64 (k : Int)] 3)) w.heap.size (.slice (some ⟨wd.heap.size, 0, none⟩) 0 0) [] := own1.below ((Below.refl _ _).alloc (Nat.le_refl _) _)
        have x2 : OwI ((wd.drew.alloc (.cells #[] 3)).alloc (.cells #[.int .i64 (k : Int)] 3)) w.heap.size (.slice (some ⟨wd.heap.size + 1, 0, none⟩) 1 1) [(k : Int)] := by
          have := OwI.one (wd.drew.alloc (.cells #[] 3)) (k : Int) w.heap.size (by omega)
          rw [s1] at this; exact this
        have own3 : OwI ((wd.drew.alloc (.cells #[.int .i64 (k : Int)] 3)).alloc (.cells #[] 3)) w.heap.size (.slice (some ⟨wd.heap.size + 1, 0, none⟩) 0 0) [] := by
          have := OwI.empty_ (wd.drew.alloc (.cells #[.int .i64 (k : Int)] 3)) w.heap.size (by omega)
          rw [sV] at this; exact this
        have x3 : OwI ((wd.drew.alloc (.cells #[.int .i64 (k : Int)] 3)).alloc (.cells #[] 3)) w.heap.size (.slice (some ⟨wd.heap.size, 0, none⟩) 1 1) [(k : Int)] := (OwI.one wd.drew (k : Int) w.heap.size hbs).below ((Below.refl _ _).alloc (Nat.le_refl _) _)
        have hl0 : ([] : List Int).length + T.length ≤ 1099511627776 := by rw [hTl]; simp; omega
        have hl2 : T.length + [(k : Int)].length ≤ 1099511627776 := by rw [hTl]; simp; omega
        have hl3 : T.length < 1099511627776 := by omega
        have hl4 : (T ++ [(k : Int)]).length + D.length ≤ 1099511627776 := by rw [List.length_append, hTl, hDl]; simp; omega
        have ap2 : Apart (.slice (some ⟨wd.heap.size + 1, 0, none⟩) 1 1) (.slice (some ⟨wd.heap.size, 0, none⟩) 0 0) := fun g h1 h2 => by simp [Value.ownBlock] at h1 h2; omega
        have ap3 : Apart (.slice (some ⟨wd.heap.size, 0, none⟩) 1 1) (.slice (some ⟨wd.heap.size + 1, 0, none⟩) 0 0) := fun g h1 h2 => by simp [Value.ownBlock] at h1 h2; omega
        have AP2 := Lib.hid ap2
        have AP3 := Lib.hid ap3
        have HS1 := Lib.hid s1
        have t1 := hrdT.below B1
        have t2 := hrdT.below B2
        have t3 := hrdT.below B3
        have b1 : w.heap.size ≤ (wd.drew.alloc (.cells #[] 3)).heap.size := by omega
        have b2 : w.heap.size ≤ ((wd.drew.alloc (.cells #[] 3)).alloc (.cells #[.int .i64 (k : Int)] 3)).heap.size := Nat.le_trans hbs B2.size
        have b3 : w.heap.size ≤ ((wd.drew.alloc (.cells #[.int .i64 (k : Int)] 3)).alloc (.cells #[] 3)).heap.size := Nat.le_trans hbs B3.size
        have HDD := Lib.hid hDl
        have HLen := Lib.hid (show (T ++ [(k : Int)] ++ D).length = k + 1 by rw [List.length_append, List.length_append, hTl, hDl]; simp; omega)
        clear hT hD hrdD hownD ap2 ap3 s1 sV hrdT hDl
        rcases Nat.lt_or_ge P cap with hPlt | hPge
        · have HDX := Lib.hid (HRX.out hPlt)
          go_region_law (first
            | refine step_appRow (f := Value.int .i64) (wd.drew.alloc (.cells #[] 3)) rfl (.tmp 27) (.tmp 30) 38 rfl w.heap.size 3 (.int .i64 0) 8 Try.underlying38 info_int rfl (by omega) (.slice (some ⟨wd.heap.size, 0, none⟩) 0 0) [] T (by simp [Act.eval, Act.put]) own1 (some ⟨g, 0, none⟩) cap (by simp [Act.eval, Act.put, hTl]) t1 (fun _ => rfl) hl0 b1 ?_
              intro v1 w3 o3 g3 a3
              have o3 : OwI w3 w.heap.size v1 T := o3
              have q3 : Below wd.heap.size wd w3 := B1.grown g3 B1.size (fun i hi => by simp [Value.ownBlock] at hi; omega)
              have z3 : w.heap.size ≤ w3.heap.size := Nat.le_trans hbs q3.size
              have n3 : ∀ i, v1.ownBlock = some i → wd.heap.size ≤ i := fun i hi => by
                rcases a3 with e | e
                · rw [e] at hi; simp [Value.ownBlock] at hi; omega
                · rw [e] at hi; simp at hi; omega
              clear g3 a3
            | refine step_appRow (f := Value.int .i64) ((wd.drew.alloc (.cells #[] 3)).alloc (.cells #[.int .i64 (k : Int)] 3)) rfl (.tmp 27) (.tmp 30) 38 rfl w.heap.size 3 (.int .i64 0) 8 Try.underlying38 info_int rfl (by omega) (.slice (some ⟨wd.heap.size, 0, none⟩) 0 0) [] T (by simp [Act.eval, Act.put]) own2 (some ⟨g, 0, none⟩) cap (by simp [Act.eval, Act.put, hTl]) t2 (fun _ => rfl) hl0 b2 ?_
              intro v1 w3 o3 g3 a3
              have o3 : OwI w3 w.heap.size v1 T := o3
              have q3 : Below wd.heap.size wd w3 := B2.grown g3 B2.size (fun i hi => by simp [Value.ownBlock] at hi; omega)
              have z3 : w.heap.size ≤ w3.heap.size := Nat.le_trans hbs q3.size
              have n3 : ∀ i, v1.ownBlock = some i → wd.heap.size ≤ i := fun i hi => by
                rcases a3 with e | e
                · rw [e] at hi; simp [Value.ownBlock] at hi; omega
                · rw [e] at hi; simp at hi; omega
              have x4 := (OwR.other (u := .slice (some ⟨wd.heap.size, 0, none⟩) 0 0) (OwI_is.1 x2) g3 AP2.out).rd
              clear g3 a3
            | refine step_appRow (f := Value.int .i64) ((wd.drew.alloc (.cells #[.int .i64 (k : Int)] 3)).alloc (.cells #[] 3)) rfl (.tmp 27) (.tmp 30) 38 rfl w.heap.size 3 (.int .i64 0) 8 Try.underlying38 info_int rfl (by omega) (.slice (some ⟨wd.heap.size + 1, 0, none⟩) 0 0) [] T (by simp [Act.eval, Act.put]) own3 (some ⟨g, 0, none⟩) cap (by simp [Act.eval, Act.put, hTl]) t3 (fun _ => rfl) hl0 b3 ?_
              intro v1 w3 o3 g3 a3
              have o3 : OwI w3 w.heap.size v1 T := o3
              have q3 : Below wd.heap.size wd w3 := B3.grown g3 B3.size (fun i hi => by simp [Value.ownBlock] at hi; omega)
              have z3 : w.heap.size ≤ w3.heap.size := Nat.le_trans hbs q3.size
              have n3 : ∀ i, v1.ownBlock = some i → wd.heap.size ≤ i := fun i hi => by
                rcases a3 with e | e
                · rw [e] at hi; simp [Value.ownBlock] at hi; omega
                · rw [e] at hi; simp at hi; omega
              have x4 := (OwR.other (u := .slice (some ⟨wd.heap.size + 1, 0, none⟩) 0 0) (OwI_is.1 x3) g3 AP3.out).rd
              clear g3 a3
            | refine step_appI w3 rfl (.tmp 31) (.tmp 34) rfl w.heap.size v1 T (by simp [Act.eval, Act.put]) o3 (k : Int) (m := w3.heap.size) (by simp [Act.eval, Act.put]) rfl hl3 z3 ?_
              intro v2 w4 o4 g4 a4
              have q4 : Below wd.heap.size wd w4 := q3.grown g4 q3.size n3
              have z4 : w.heap.size ≤ w4.heap.size := Nat.le_trans hbs q4.size
              have d4 := HDX.out.below q4
              have n4 : ∀ i, v2.ownBlock = some i → wd.heap.size ≤ i := fun i hi => by
                rcases a4.1 with e | e
                · rw [e] at hi; exact n3 i hi
                · rw [e] at hi; have := q3.size; simp at hi; omega
              clear g4 a4
            | refine step_appRow (f := Value.int .i64) w3 rfl (.tmp 31) (.tmp 34) 38 rfl w.heap.size 3 (.int .i64 0) 8 Try.underlying38 info_int rfl (by omega) v1 T [(k : Int)] (by simp [Act.eval, Act.put]) o3 (some ⟨wd.heap.size + 1, 0, none⟩) 1 (by simp [Act.eval, Act.put]) x4 (fun _ => rfl) hl2 z3 ?_
              intro v2 w4 o4 g4 a4
              have o4 : OwI w4 w.heap.size v2 (T ++ [(k : Int)]) := o4
              have q4 : Below wd.heap.size wd w4 := q3.grown g4 q3.size n3
              have z4 : w.heap.size ≤ w4.heap.size := Nat.le_trans hbs q4.size
              have d4 := HDX.out.below q4
              have n4 : ∀ i, v2.ownBlock = some i → wd.heap.size ≤ i := fun i hi => by
                rcases a4 with e | e
                · rw [e] at hi; exact n3 i hi
                · rw [e] at hi; have := q3.size; simp at hi; omega
              clear g4 a4
            | refine step_appRow (f := Value.int .i64) w3 rfl (.tmp 31) (.tmp 34) 38 rfl w.heap.size 3 (.int .i64 0) 8 Try.underlying38 info_int rfl (by omega) v1 T [(k : Int)] (by simp [Act.eval, Act.put]) o3 (some ⟨wd.heap.size, 0, none⟩) 1 (by simp [Act.eval, Act.put]) x4 (fun _ => rfl) hl2 z3 ?_
              intro v2 w4 o4 g4 a4
              have o4 : OwI w4 w.heap.size v2 (T ++ [(k : Int)]) := o4
              have q4 : Below wd.heap.size wd w4 := q3.grown g4 q3.size n3
              have z4 : w.heap.size ≤ w4.heap.size := Nat.le_trans hbs q4.size
              have d4 := HDX.out.below q4
              have n4 : ∀ i, v2.ownBlock = some i → wd.heap.size ≤ i := fun i hi => by
                rcases a4 with e | e
                · rw [e] at hi; exact n3 i hi
                · rw [e] at hi; have := q3.size; simp at hi; omega
              clear g4 a4
            | refine step_appRow (f := Value.int .i64) w4 rfl (.tmp 35) (.tmp 38) 38 rfl w.heap.size 3 (.int .i64 0) 8 Try.underlying38 info_int rfl (by omega) v2 (T ++ [(k : Int)]) D (by simp [Act.eval, Act.put]) o4 (some ⟨g, P, none⟩) (cap - P) (by simp [Act.eval, Act.put, HDD.out]; intros; omega) d4 (fun _ => rfl) hl4 z4 ?_
              intro v3 w5 o5 g5 a5
              have o5 : OwI w5 w.heap.size v3 (T ++ [(k : Int)] ++ D) := o5
              have q5 : Below wd.heap.size wd w5 := q4.grown g5 q4.size n4
              obtain ⟨g6, cap6, rfl, _, _⟩ := o5.shape_pos' (by simp; try omega)
              rw [HLen.out] at o5
              rw [HLen.out]
              clear g5 a5)
          all_goals (
            go_wp2_with fail
            go_roundw
            case rel => exact ⟨T ++ [(k : Int)] ++ D, j - 1, by go_num, by rw [HLen.out]; omega, o5, ⟨_, _, by rw [HLen.out]⟩, C6.out.below q5, grown_trans_row G6.out (grown_below q5)⟩
            case measure => simp [intOf]; omega)
        · have hPe : P = cap := by omega
          have hD0 : D = [] := List.eq_nil_of_length_eq_zero (by have := HDD.out; omega)
          subst hD0
          subst hPe
          clear HRX hPge
          go_region_law (first
            | refine step_appRow (f := Value.int .i64) (wd.drew.alloc (.cells #[] 3)) rfl (.tmp 27) (.tmp 30) 38 rfl w.heap.size 3 (.int .i64 0) 8 Try.underlying38 info_int rfl (by omega) (.slice (some ⟨wd.heap.size, 0, none⟩) 0 0) [] T (by simp [Act.eval, Act.put]) own1 (some ⟨g, 0, none⟩) P (by simp [Act.eval, Act.put, hTl]) t1 (fun _ => rfl) hl0 b1 ?_
              intro v1 w3 o3 g3 a3
              have o3 : OwI w3 w.heap.size v1 T := o3
              have q3 : Below wd.heap.size wd w3 := B1.grown g3 B1.size (fun i hi => by simp [Value.ownBlock] at hi; omega)
              have z3 : w.heap.size ≤ w3.heap.size := Nat.le_trans hbs q3.size
              have n3 : ∀ i, v1.ownBlock = some i → wd.heap.size ≤ i := fun i hi => by
                rcases a3 with e | e
                · rw [e] at hi; simp [Value.ownBlock] at hi; omega
                · rw [e] at hi; simp at hi; omega
              clear g3 a3
            | refine step_appRow (f := Value.int .i64) ((wd.drew.alloc (.cells #[] 3)).alloc (.cells #[.int .i64 (k : Int)] 3)) rfl (.tmp 27) (.tmp 30) 38 rfl w.heap.size 3 (.int .i64 0) 8 Try.underlying38 info_int rfl (by omega) (.slice (some ⟨wd.heap.size, 0, none⟩) 0 0) [] T (by simp [Act.eval, Act.put]) own2 (some ⟨g, 0, none⟩) P (by simp [Act.eval, Act.put, hTl]) t2 (fun _ => rfl) hl0 b2 ?_
              intro v1 w3 o3 g3 a3
              have o3 : OwI w3 w.heap.size v1 T := o3
              have q3 : Below wd.heap.size wd w3 := B2.grown g3 B2.size (fun i hi => by simp [Value.ownBlock] at hi; omega)
              have z3 : w.heap.size ≤ w3.heap.size := Nat.le_trans hbs q3.size
              have n3 : ∀ i, v1.ownBlock = some i → wd.heap.size ≤ i := fun i hi => by
                rcases a3 with e | e
                · rw [e] at hi; simp [Value.ownBlock] at hi; omega
                · rw [e] at hi; simp at hi; omega
              have x4 := (OwR.other (u := .slice (some ⟨wd.heap.size, 0, none⟩) 0 0) (OwI_is.1 x2) g3 AP2.out).rd
              clear g3 a3
            | refine step_appRow (f := Value.int .i64) ((wd.drew.alloc (.cells #[.int .i64 (k : Int)] 3)).alloc (.cells #[] 3)) rfl (.tmp 27) (.tmp 30) 38 rfl w.heap.size 3 (.int .i64 0) 8 Try.underlying38 info_int rfl (by omega) (.slice (some ⟨wd.heap.size + 1, 0, none⟩) 0 0) [] T (by simp [Act.eval, Act.put]) own3 (some ⟨g, 0, none⟩) P (by simp [Act.eval, Act.put, hTl]) t3 (fun _ => rfl) hl0 b3 ?_
              intro v1 w3 o3 g3 a3
              have o3 : OwI w3 w.heap.size v1 T := o3
              have q3 : Below wd.heap.size wd w3 := B3.grown g3 B3.size (fun i hi => by simp [Value.ownBlock] at hi; omega)
              have z3 : w.heap.size ≤ w3.heap.size := Nat.le_trans hbs q3.size
              have n3 : ∀ i, v1.ownBlock = some i → wd.heap.size ≤ i := fun i hi => by
                rcases a3 with e | e
                · rw [e] at hi; simp [Value.ownBlock] at hi; omega
                · rw [e] at hi; simp at hi; omega
              have x4 := (OwR.other (u := .slice (some ⟨wd.heap.size + 1, 0, none⟩) 0 0) (OwI_is.1 x3) g3 AP3.out).rd
              clear g3 a3
            | refine step_appI w3 rfl (.tmp 31) (.tmp 34) rfl w.heap.size v1 T (by simp [Act.eval, Act.put]) o3 (k : Int) (m := w3.heap.size) (by simp [Act.eval, Act.put]) rfl hl3 z3 ?_
              intro v2 w4 o4 g4 a4
              have q4 : Below wd.heap.size wd w4 := q3.grown g4 q3.size n3
              have z4 : w.heap.size ≤ w4.heap.size := Nat.le_trans hbs q4.size
              have d4 := RdI.empty_ w4 (some ⟨g, 0, none⟩) 0
              have n4 : ∀ i, v2.ownBlock = some i → wd.heap.size ≤ i := fun i hi => by
                rcases a4.1 with e | e
                · rw [e] at hi; exact n3 i hi
                · rw [e] at hi; have := q3.size; simp at hi; omega
              clear g4 a4
            | refine step_appRow (f := Value.int .i64) w3 rfl (.tmp 31) (.tmp 34) 38 rfl w.heap.size 3 (.int .i64 0) 8 Try.underlying38 info_int rfl (by omega) v1 T [(k : Int)] (by simp [Act.eval, Act.put]) o3 (some ⟨wd.heap.size + 1, 0, none⟩) 1 (by simp [Act.eval, Act.put]) x4 (fun _ => rfl) hl2 z3 ?_
              intro v2 w4 o4 g4 a4
              have o4 : OwI w4 w.heap.size v2 (T ++ [(k : Int)]) := o4
              have q4 : Below wd.heap.size wd w4 := q3.grown g4 q3.size n3
              have z4 : w.heap.size ≤ w4.heap.size := Nat.le_trans hbs q4.size
              have d4 := RdI.empty_ w4 (some ⟨g, 0, none⟩) 0
              have n4 : ∀ i, v2.ownBlock = some i → wd.heap.size ≤ i := fun i hi => by
                rcases a4 with e | e
                · rw [e] at hi; exact n3 i hi
                · rw [e] at hi; have := q3.size; simp at hi; omega
              clear g4 a4
            | refine step_appRow (f := Value.int .i64) w3 rfl (.tmp 31) (.tmp 34) 38 rfl w.heap.size 3 (.int .i64 0) 8 Try.underlying38 info_int rfl (by omega) v1 T [(k : Int)] (by simp [Act.eval, Act.put]) o3 (some ⟨wd.heap.size, 0, none⟩) 1 (by simp [Act.eval, Act.put]) x4 (fun _ => rfl) hl2 z3 ?_
              intro v2 w4 o4 g4 a4
              have o4 : OwI w4 w.heap.size v2 (T ++ [(k : Int)]) := o4
              have q4 : Below wd.heap.size wd w4 := q3.grown g4 q3.size n3
              have z4 : w.heap.size ≤ w4.heap.size := Nat.le_trans hbs q4.size
              have d4 := RdI.empty_ w4 (some ⟨g, 0, none⟩) 0
              have n4 : ∀ i, v2.ownBlock = some i → wd.heap.size ≤ i := fun i hi => by
                rcases a4 with e | e
                · rw [e] at hi; exact n3 i hi
                · rw [e] at hi; have := q3.size; simp at hi; omega
              clear g4 a4
            | refine step_appRow (f := Value.int .i64) w4 rfl (.tmp 35) (.tmp 38) 38 rfl w.heap.size 3 (.int .i64 0) 8 Try.underlying38 info_int rfl (by omega) v2 (T ++ [(k : Int)]) [] (by simp [Act.eval, Act.put]) o4 (some ⟨g, 0, none⟩) 0 (by simp [Act.eval, Act.put]; try omega) d4 (fun _ => rfl) hl4 z4 ?_
              intro v3 w5 o5 g5 a5
              have o5 : OwI w5 w.heap.size v3 (T ++ [(k : Int)] ++ []) := o5
              have q5 : Below wd.heap.size wd w5 := q4.grown g5 q4.size n4
              obtain ⟨g6, cap6, rfl, _, _⟩ := o5.shape_pos' (by simp; try omega)
              rw [HLen.out] at o5
              rw [HLen.out]
              clear g5 a5)
          all_goals (
            go_wp2_with fail
            go_roundw
            case rel => exact ⟨T ++ [(k : Int)] ++ [], j - 1, by go_num, by rw [HLen.out]; omega, o5, ⟨_, _, by rw [HLen.out]⟩, C6.out.below q5, grown_trans_row G6.out (grown_below q5)⟩
            case measure => simp [intOf]; omega)
      · have hki : ¬ (0 : Int) < (j : Int) := by omega
        have hl : out.length ≤ 6 := by omega
        by_cases hp : 0 < out.length
        · have hpi : (0 : Int) < (out.length : Int) := by omega
          have hgb : w.heap.size ≤ g := (hown.lt g rfl).1
          have HO := Lib.hid (l1Once_any cb 12 bs _ hcu (by omega) (by omega))
          go_wp2_with (go_at_call 237; refine HO.out.mono ?_; rintro e w5 ⟨z5, rfl, c5, g5⟩; have o5 := hown.cur g5 hcb; have G5 := grown_trans_row hg g5)
          · clear HO
            obtain ⟨w6, hw6⟩ : ∃ w6, w6 = w5 := ⟨_, rfl⟩
            have c6 : CurAt w6 cb bs := by rw [hw6]; exact c5
            have o6 : OwI w6 w.heap.size (.slice (some ⟨g, 0, none⟩) out.length cap) out := by rw [hw6]; exact o5
            have G6 : w.grownBy w6 (some cb) := by rw [hw6]; exact G5
            rw [← hw6]
            clear hw6 c5 o5 G5 g5
            have c7 := c6.grown (row := none) (World.grownBy_alloc w6 (.cells #[.int .i64 (-1), .int .i64 0, .int .i64 1, .int .i64 9223372036854775807] 3) none) (fun r e => by cases e); have o7 := o6.below ((Below.refl _ _).alloc (Nat.le_refl _) (.cells #[.int .i64 (-1), .int .i64 0, .int .i64 1, .int .i64 9223372036854775807] 3)); have G7 := grown_trans_row G6 (grown_alloc w6 (.cells #[.int .i64 (-1), .int .i64 0, .int .i64 1, .int .i64 9223372036854775807] 3) _); have hP : RdI (w6.alloc (.cells #[.int .i64 (-1), .int .i64 0, .int .i64 1, .int .i64 9223372036854775807] 3)) (.slice (some ⟨w6.heap.size, 0, none⟩) 4 4) [-1, 0, 1, 9223372036854775807] := OwI.rd (OwR.lit (e := 3) (f := Value.int .i64) w6 [-1, 0, 1, 9223372036854775807] w6.heap.size (Nat.le_refl _) (by simp)); have hPne : (Value.slice (some ⟨w6.heap.size, 0, none⟩) 4 4).ownBlock ≠ some cb := (by have := c6.lt; simp [Value.ownBlock]; omega)
            go_wp2_with (go_at_call 238; refine (l1PickInt_any cb bs _ c7 _ [-1, 0, 1, 9223372036854775807] hP hPne (by simp) (by simp)).mono ?_; rintro e w8 ⟨y, hy, rfl, c8, g8⟩; have o8 := o7.cur g8 hcb; have G8 := grown_trans_row G7 g8; have q2 := o8.cellAt 0 hp; have q3 := o8.frozenAt 0)
            go_ret
            exact ⟨_, _, rfl, (o8.stored 0 y).1, by simpa using hl, c8.other (base := w.heap.size) (v := .slice (some ⟨g, 0, none⟩) out.length cap) (o8.stored 0 y).2 (fun r e => by have e : g = r := Option.some.inj e; omega) hcb, grown_new (base := w.heap.size) (v := .slice (some ⟨g, 0, none⟩) out.length cap) G8 (o8.stored 0 y).2 (fun r e => by have e : g = r := Option.some.inj e; omega) (Nat.le_refl _)⟩
          · clear HO
            go_ret
            exact ⟨_, _, rfl, o5, hl, c5, G5⟩
        · have hpi : ¬ (0 : Int) < (out.length : Int) := by omega
          have HOW := Lib.hid hown
          go_wp2_with fail
          go_ret
          exact ⟨_, _, rfl, HOW.out, hl, hcu, hg⟩
theorem DrawInverseOf_any (v : Value) (bs : List UInt8) (w : World) (hv : RdR bf w v bs) : Calls Try.prog 65 #[v] w (RetXI w fun xs => xs.length ≤ 6) := by
  go_enter Try.func65, Try.ntmps65
  go_wp2_with fail
  refine (l1New_any v bs w hv).mono ?_; rintro e w1 ⟨rfl, c1, b1⟩
  go_wp2_with fail
  refine (l10Any_any w.heap.size bs w1 c1).mono ?_; rintro e w2 ⟨r, xs, rfl, o2, hx, c2, g2⟩
  go_wp2_with fail
  go_ret
  exact ⟨r, xs, rfl, o2.rd, hx, below_cur b1 g2⟩
theorem DrawPathOfPermutation_any (v : Value) (bs : List UInt8) (w : World) (hv : RdR bf w v bs) : Calls Try.prog 70 #[v] w (RetXI w fun xs => xs.length ≤ 6) := by
  go_enter Try.func70, Try.ntmps70
  go_wp2_with fail
  refine (l1New_any v bs w hv).mono ?_; rintro e w1 ⟨rfl, c1, b1⟩
  go_wp2_with fail
  refine (l10Any_any w.heap.size bs w1 c1).mono ?_; rintro e w2 ⟨r, xs, rfl, o2, hx, c2, g2⟩
  go_wp2_with fail
  go_ret
  exact ⟨r, xs, rfl, o2.rd, hx, below_cur b1 g2⟩
end Go.Proofs.Ytnkkgfeegaiakaa
