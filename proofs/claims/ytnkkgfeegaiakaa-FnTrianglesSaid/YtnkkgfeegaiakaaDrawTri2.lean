/- Contracts of the draws of triangulations. No condition. -/
import Derived.Test.YtnkkgfeegaiakaaDrawTri
import Derived.OwnWalk
namespace Go.Proofs.Ytnkkgfeegaiakaa
open Go.RowKit
theorem OwSS.cur7 {w w' : World} {base top cb : Nat} {v : Value} {xss : List (List Int)} (h : OwSS w base top v xss) (g : w.grownBy w' (some cb)) (hcb : cb < base) : OwSS w' base top v xss :=
  h.turned (b' := cb) (t' := cb + 1) ⟨g.os, g.tape, g.output, g.size, fun k hk hne => g.block k hk (by intro e; injection e with e; omega)⟩ (.inr (by omega))
/-- a slice of rows whose first row is replaced reads as that -/
theorem OwSS.set0 {w w' : World} {base top base' g n c cb : Nat} {xss : List (List Int)} {u : Value} {ys : List Int} (h : OwSS w base top (.slice (some ⟨g, 0, none⟩) n c) xss) (h0 : 0 < xss.length) (hu : OwI w base' u ys) (hcb : cb < base) (hcb' : cb < base') (hw : (w.setCell ⟨g, 0, none⟩ u).grownBy w' (some cb)) : RdSS w' (.slice (some ⟨g, 0, none⟩) n c) (xss.set 0 ys) := by
  obtain ⟨V, ho, hr, _⟩ := h
  have hap := OwR.apart_of_type ho (OwI_is.1 hu) (by decide)
  have hg := grown_set w g 0 u
  have hne : u.ownBlock ≠ some g := hap g rfl
  have hlen : ((List.range xss.length).map V).length = xss.length := by simp
  obtain ⟨A, c', e, q1, q2, q3⟩ := ho.rd
  injection e with e1 e2 e3
  obtain ⟨b, o, eb, hlt, hc⟩ := q3 (by rw [hlen]; exact h0)
  rw [eb] at e1
  injection e1 with e1; injection e1 with e4 e5
  subst e4; subst e5
  rw [hlen] at e2 q1 q2
  refine ⟨some ⟨g, 0, none⟩, c, by rw [List.length_set, e2], by rw [List.length_set, e3]; exact q1, by rw [List.length_set]; exact q2, fun _ => ⟨g, 0, rfl, Nat.lt_of_lt_of_le (by simpa using hlt) hw.size, fun k hk => ?_⟩⟩
  have hgb : base ≤ g := (OwR.lt ho g rfl).1
  have hcell : ∀ j, w'.cell? ⟨g, j, none⟩ = (w.setCell ⟨g, 0, none⟩ u).cell? ⟨g, j, none⟩ := fun j => World.cell?_of_block (a := ⟨g, j, none⟩) (hw.block g (by simpa using hlt) (fun e => by injection e with e; omega))
  have hk' : k < xss.length := by rw [List.length_set] at hk; exact hk
  have ck := hc k (by rw [hlen]; exact hk')
  rw [List.getElem_map, List.getElem_range] at ck
  by_cases k0 : k = 0
  · subst k0
    refine ⟨u, (hcell _).trans (World.cell?_setCell_same _ _ _ ck), ?_⟩
    rw [List.getElem_set_self]
    exact ((hu.grown hg (.inr hne)).cur hw hcb').rd
  · refine ⟨V k, by rw [hcell, World.cell?_setCell_other _ _ _ _ (fun q => k0 (by injection q with _ q; omega))]; exact ck, ?_⟩
    rw [List.getElem_set_ne (fun q => k0 q.symm)]
    have hrk := hr k hk'
    rw [rowOf_get hk'] at hrk
    have hap2 := OwR.apart_of_type ho (OwI_is.1 hrk) (by decide)
    exact ((hrk.grown hg (.inr (hap2 g rfl))).cur hw hcb).rd
def RetD7 (w : World) (cb : Nat) (bs : List UInt8) (e : Ending) (w' : World) : Prop := ∃ n r xs, e = .returned (.tuple #[.int .i64 n, r]) ∧ I64 n ∧ Hid (∀ w'', w'.grownBy w'' (some cb) → RdSS w'' r xs) ∧ xs.length ≤ 20 ∧ CurAt w' cb bs ∧ w.grownBy w' (some cb)
def RetX7 (w : World) (e : Ending) (w' : World) : Prop := ∃ n r xs, e = .returned (.tuple #[.int .i64 n, r]) ∧ I64 n ∧ RdSS w' r xs ∧ xs.length ≤ 20 ∧ Below w.heap.size w w'
set_option maxRecDepth 8000 in
set_option maxHeartbeats 8000000 in
theorem l7Any_any (cb : Nat) (bs : List UInt8) (w : World) (hc : CurAt w cb bs) : Calls Try.prog 224 #[.pointer (some ⟨cb, 0, none⟩)] w (RetD7 w cb bs) := by
  have hcb := hc.lt
  go_enter Try.func224, Try.ntmps224
  go_wp2_with fail
  refine (l2PathD_any cb bs w hc).mono ?_; rintro e w1 ⟨l, rfl, hd, hl, c1, g1⟩
  go_wp2_with fail
  refine (l6Binary_any l.length l w1 (Nat.le_refl _) hd hl).mono ?_; rintro e w2 ⟨T, rfl, hT, q, rfl⟩
  have c2 := c1.below (below_draws w1 q)
  have G2 := grown_trans_row g1 (grown_below (below_draws w1 q))
  have hlz : (S l).size = l.length := S_size l
  have h8 : T.size ≤ 6 := by omega
  have hdiv : (l.length : Int) / 2 = (T.size : Int) := by omega
  have HSP := specTriangulationOf_any (S (txT T)) (w1.drewN q) (by rw [S_size, txT_len]; omega)
  rw [L_S, tgR_some (ptR_txT (by omega))] at HSP
  have hrows : (putsG [] ltL (dgs T)).length ≤ 6 := by rw [putsG_len, dgs_len]; omega
  clear c1 g1 hd hT hc
  generalize w1.drewN q = w2 at *
  generalize putsG [] ltL (dgs T) = rows at *
  obtain ⟨m, hm⟩ : ∃ m, m = T.size := ⟨_, rfl⟩
  rw [← hm] at hdiv h8
  generalize S (txT T) = s at *
  clear hm
  go_wp2_with fail
  refine HSP.mono ?_; clear HSP; rintro e w3 ⟨r, rfl, o3, b3⟩
  have c3 := c2.below b3
  have G3 := grown_trans_row G2 (grown_below b3)
  have hcb2 : cb < w2.heap.size := Nat.lt_of_lt_of_le hcb G2.size
  have hrb : w.heap.size ≤ w2.heap.size := G2.size
  have hws3 := b3.size
  clear c2 G2 b3
  have ew : IntKind.i64.wrap ((m : Int) + 2) = (m : Int) + 2 := IntWalk.i64_in _ (by omega)
  have ew2 : IntKind.i64.wrap ((m : Int) + 2 + 1) = (m : Int) + 3 := by rw [show (m : Int) + 2 + 1 = (m : Int) + 3 by omega]; exact IntWalk.i64_in _ (by omega)
  obtain ⟨Ar, cr, rfl⟩ := o3.shape
  go_wp2_with fail
  refine (l1Below_any cb 14 bs w3 c3 (by omega) (by omega)).mono ?_; rintro e w4 ⟨v, rfl, hv, c4, g4⟩
  have G4 := grown_trans_row G3 g4
  have o4 := o3.cur7 g4 hcb2
  have hws : w2.heap.size ≤ w4.heap.size := Nat.le_trans hws3 g4.size
  clear c3 G3 g4 o3
  by_cases v0 : v = 0
  · have f1 : ((v : Int) == 0) = true := beq_iff_eq.2 (by omega)
    clear v0
    have hP : RdI (w4.alloc (.cells #[.int .i64 ((m : Int) + 3), .int .i64 0, .int .i64 (-1), .int .i64 9223372036854775807] 3)) (.slice (some ⟨w4.heap.size, 0, none⟩) 4 4) [(m : Int) + 3, 0, -1, 9223372036854775807] := OwI.rd (OwR.lit (e := 3) (f := Value.int .i64) w4 [(m : Int) + 3, 0, -1, 9223372036854775807] w4.heap.size (Nat.le_refl _) (by simp))
    have c5 := c4.grown (row := none) (World.grownBy_alloc w4 (.cells #[.int .i64 ((m : Int) + 3), .int .i64 0, .int .i64 (-1), .int .i64 9223372036854775807] 3) none) (fun r e => by cases e)
    have o5 := o4.below ((Below.refl _ _).alloc (Nat.le_refl _) (.cells #[.int .i64 ((m : Int) + 3), .int .i64 0, .int .i64 (-1), .int .i64 9223372036854775807] 3))
    have HG := Lib.hid (grown_trans_row G4 (grown_alloc w4 (.cells #[.int .i64 ((m : Int) + 3), .int .i64 0, .int .i64 (-1), .int .i64 9223372036854775807] 3) (some cb)))
    have hc4 := c4.lt
    have HPK := Lib.hid (l1PickInt_any cb bs _ c5 _ _ hP (fun e => by simp [Value.ownBlock] at e; omega) (by simp) (by simp))
    have HO := Lib.hid o5
    clear hP c5 o5 o4 c4 G4
    go_wp2_with fail
    refine HPK.out.mono ?_; rintro e w6 ⟨x, hx, rfl, c6, g6⟩
    have hx64 : I64 x := by
      simp only [List.mem_cons, List.not_mem_nil, or_false] at hx
      unfold I64; omega
    have o6 := HO.out.cur7 g6 hcb2
    go_wp2_with fail
    go_ret2
    exact ⟨x, _, rows, rfl, hx64, fun w'' hq => (o6.cur7 hq hcb2).rd, by omega, c6, grown_trans_row HG.out g6⟩
  · have f0 : ((v : Int) == 0) = false := beq_eq_false_iff_ne.2 (by omega)
    by_cases v1 : v = 1
    · have f1 : ((v : Int) == 1) = true := beq_iff_eq.2 (by omega)
      clear v0 v1
      by_cases hp : 0 < rows.length
      · have hpi : (0 : Int) < (rows.length : Int) := by omega
        obtain ⟨g, rfl, hgb, hgl⟩ := o4.at_ hp
        go_wp2_with fail
        refine (l1Below_any cb 5 bs w4 c4 (by omega) (by omega)).mono ?_; rintro e w5 ⟨x, rfl, hx, c5, g5⟩
        have G5 := grown_trans_row G4 g5
        have o5 := o4.cur7 g5 hcb2
        clear c4 G4 g5 o4
        have ewx : IntKind.i64.wrap ((x : Int) - 1) = (x : Int) - 1 := IntWalk.i64_in _ (by omega)
        go_wp2_with fail
        refine (l1Below_any cb 6 bs w5 c5 (by omega) (by omega)).mono ?_; rintro e w6 ⟨y, rfl, hy, c6, g6⟩
        have G6 := grown_trans_row G5 g6
        have o6 := o5.cur7 g6 hcb2
        clear c5 G5 g6 o5
        have hlit : OwI (w6.alloc (.cells #[.int .i64 ((x : Int) - 1), .int .i64 (y : Int)] 3)) w6.heap.size (.slice (some ⟨w6.heap.size, 0, none⟩) 2 2) [(x : Int) - 1, (y : Int)] := OwR.lit (e := 3) (f := Value.int .i64) w6 [(x : Int) - 1, (y : Int)] w6.heap.size (Nat.le_refl _) (by simp)
        have o7 := o6.below ((Below.refl _ _).alloc (Nat.le_refl _) (.cells #[.int .i64 ((x : Int) - 1), .int .i64 (y : Int)] 3))
        have c7 := c6.grown (row := none) (World.grownBy_alloc w6 (.cells #[.int .i64 ((x : Int) - 1), .int .i64 (y : Int)] 3) none) (fun r e => by cases e)
        have G7 := grown_trans_row G6 (grown_alloc w6 (.cells #[.int .i64 ((x : Int) - 1), .int .i64 (y : Int)] 3) (some cb))
        have HRD := Lib.hid (fun (w'' : World) (hq : ((w6.alloc (.cells #[.int .i64 ((x : Int) - 1), .int .i64 (y : Int)] 3)).setCell ⟨g, 0, none⟩ (.slice (some ⟨w6.heap.size, 0, none⟩) 2 2)).grownBy w'' (some cb)) => o7.set0 hp hlit hcb2 (Nat.lt_of_lt_of_le hcb G6.size) hq)
        obtain ⟨V, ho, _⟩ := id o7
        have k1 := ho.cellAt 0 (by simp; exact hp)
        have k2 := ho.frozenAt 0
        have HC8 := Lib.hid (c7.grown (row := some g) (grown_set _ g 0 (.slice (some ⟨w6.heap.size, 0, none⟩) 2 2)) (fun r e => by injection e with e; omega))
        have HG8 : Hid (w.grownBy ((w6.alloc (.cells #[.int .i64 ((x : Int) - 1), .int .i64 (y : Int)] 3)).setCell ⟨g, 0, none⟩ (.slice (some ⟨w6.heap.size, 0, none⟩) 2 2)) (some cb)) := ⟨G7.os, G7.tape, G7.output, by simpa using G7.size, fun k hk hne => (Below.heap_setCell _ _ _ _ (by show k ≠ g; omega)).trans (G7.block k hk hne)⟩
        have hrl : (rows.set 0 [(x : Int) - 1, (y : Int)]).length ≤ 20 := by rw [List.length_set]; omega
        clear hlit o6 c6 G6 c7 G7 o7 ho
        go_wp2_with fail
        go_ret2
        exact ⟨(m : Int) + 2, _, _, rfl, by unfold I64; omega, HRD.out, hrl, HC8.out, HG8.out⟩
      · have hpi : ¬ (0 : Int) < (rows.length : Int) := by omega
        have HRD := Lib.hid (fun (w'' : World) (hq : w4.grownBy w'' (some cb)) => (o4.cur7 hq hcb2).rd)
        go_wp2_with fail
        go_ret2
        exact ⟨(m : Int) + 2, _, rows, rfl, by unfold I64; omega, HRD.out, by omega, c4, G4⟩
    · have f1 : ((v : Int) == 1) = false := beq_eq_false_iff_ne.2 (by omega)
      by_cases v2 : v = 2
      · have f2 : ((v : Int) == 2) = true := beq_iff_eq.2 (by omega)
        clear v0 v1 v2
        have b1 : Below w4.heap.size w4 (w4.alloc (.cells #[.int .i64 0] 3)) := (Below.refl _ _).alloc (Nat.le_refl _) _
        have hsz4 := hws
        have hbase : w2.heap.size ≤ (w4.alloc (.cells #[.int .i64 0] 3)).heap.size := Nat.le_trans hsz4 b1.size
        have u1 : OwI (w4.alloc (.cells #[.int .i64 0] 3)) w2.heap.size (.slice (some ⟨w4.heap.size, 0, none⟩) 1 1) [0] := OwR.lit (e := 3) (f := Value.int .i64) w4 [0] w2.heap.size hsz4 (by simp)
        have hut : ∀ g, (Value.slice (some ⟨w4.heap.size, 0, none⟩) 1 1).ownBlock = some g → w4.heap.size ≤ g := fun g hg => by injection hg with hg; exact Nat.le_of_eq hg
        have hlen : rows.length < 1099511627776 := by omega
        go_wp2_with (at_builtin; refine wpList_appSS (w4.alloc (.cells #[.int .i64 0] 3)) rfl _ _ rfl w4 w2.heap.size _ _ rows rfl o4 b1 _ [0] u1 hut rfl (by simp) hlen hbase ?_)
        intro v' w5 o5 g5 a5
        obtain ⟨ga, cap, rfl⟩ := a5.2
        have c5 := (c4.below b1).grown g5 (fun r e => by have := (o4.lt r e).1; omega)
        have HC5 := Lib.hid c5
        have HG5 : Hid (w.grownBy w5 (some cb)) := Lib.hid (grown_new (base := w2.heap.size) (grown_trans_row G4 (grown_below b1)) g5 (fun r e => (o4.lt r e).1) hrb)
        have HRD := Lib.hid (fun (w'' : World) (hq : w5.grownBy w'' (some cb)) => (o5.cur7 hq hcb2).rd)
        have hrl : (rows ++ [[0]]).length ≤ 20 := by rw [List.length_append]; simp; omega
        have HRL := Lib.hid (show (rows ++ [[0]]).length = rows.length + 1 by simp)
        clear o5 g5 a5 c5 c4 o4 u1
        go_wp2_with fail
        go_ret2
        exact ⟨(m : Int) + 2, _, _, rfl, by unfold I64; omega, HRD.out, hrl, HC5.out, HG5.out⟩
      · have f2 : ((v : Int) == 2) = false := beq_eq_false_iff_ne.2 (by omega)
        have HRD := Lib.hid (fun (w'' : World) (hq : w4.grownBy w'' (some cb)) => (o4.cur7 hq hcb2).rd)
        clear v0 v1 v2
        go_wp2_with fail
        go_ret2
        exact ⟨(m : Int) + 2, _, rows, rfl, by unfold I64; omega, HRD.out, by omega, c4, G4⟩
theorem l7Both_any (v : Value) (bs : List UInt8) (w : World) (hv : RdR bf w v bs) : Calls Try.prog 226 #[v] w (RetX7 w) := by
  go_enter Try.func226, Try.ntmps226
  go_wp2_with fail
  refine (l1New_any v bs w hv).mono ?_; rintro e w1 ⟨rfl, c1, b1⟩
  go_wp2_with fail
  refine (l7Any_any w.heap.size bs w1 c1).mono ?_; rintro e w2 ⟨n, r, xs, rfl, h64, hr, hl, c2, g2⟩
  have HR := Lib.hid (hr w2 (World.grownBy.refl w2 _))
  obtain ⟨A, c, rfl, _⟩ := id HR.out
  go_wp2_with fail
  go_ret2
  exact ⟨n, _, xs, rfl, h64, HR.out, hl, below_cur b1 g2⟩
theorem DrawIsTriangulation_any (v : Value) (bs : List UInt8) (w : World) (hv : RdR bf w v bs) : Calls Try.prog 154 #[v] w (RetX7 w) := by
  go_enter Try.func154, Try.ntmps154
  go_wp2_with fail
  refine (l7Both_any v bs w hv).mono ?_; rintro e w2 ⟨n, r, xs, rfl, h64, hr, hl, b2⟩
  obtain ⟨A, c, rfl, _⟩ := id hr
  have HR := Lib.hid hr
  go_wp2_with fail
  go_ret2
  exact ⟨n, _, xs, rfl, h64, HR.out, hl, b2⟩
theorem DrawEarsOf_any (v : Value) (bs : List UInt8) (w : World) (hv : RdR bf w v bs) : Calls Try.prog 156 #[v] w (RetX7 w) := by
  go_enter Try.func156, Try.ntmps156
  go_wp2_with fail
  refine (l7Both_any v bs w hv).mono ?_; rintro e w2 ⟨n, r, xs, rfl, h64, hr, hl, b2⟩
  obtain ⟨A, c, rfl, _⟩ := id hr
  have HR := Lib.hid hr
  by_cases h20 : n ≤ 20
  · go_wp2_with fail
    go_ret2
    exact ⟨_, _, xs, rfl, h64, HR.out, hl, b2⟩
  · go_wp2_with fail
    go_ret2
    exact ⟨_, _, xs, rfl, by unfold I64; omega, HR.out, hl, b2⟩
theorem DrawTurnPolygon_any (v : Value) (bs : List UInt8) (w : World) (hv : RdR bf w v bs) : Calls Try.prog 151 #[v] w fun e w' => ∃ n r xs k, e = .returned (.tuple #[.int .i64 n, r, .int .i64 k]) ∧ I64 n ∧ RdSS w' r xs ∧ xs.length ≤ 20 ∧ I64 k ∧ Below w.heap.size w w' := by
  go_enter Try.func151, Try.ntmps151
  go_wp2_with fail
  refine (l1New_any v bs w hv).mono ?_; rintro e w1 ⟨rfl, c1, b1⟩
  go_wp2_with fail
  refine (l7Any_any w.heap.size bs w1 c1).mono ?_; rintro e w2 ⟨n, r, xs, rfl, h64, hr, hl, c2, g2⟩
  obtain ⟨A, c, rfl, _⟩ := id (hr w2 (World.grownBy.refl w2 _))
  have G2 := below_cur b1 g2
  have HR := Lib.hid hr
  clear hr
  go_wp2_with fail
  refine (l1Below_any w.heap.size 9 bs w2 c2 (by omega) (by omega)).mono ?_; rintro e w3 ⟨x, rfl, hx, c3, g3⟩
  have HR3 := Lib.hid (HR.out w3 g3)
  have G3 := below_cur G2 g3
  have ewx : IntKind.i64.wrap ((x : Int) - 1) = (x : Int) - 1 := IntWalk.i64_in _ (by omega)
  go_wp2_with fail
  go_ret3
  exact ⟨n, _, xs, (x : Int) - 1, rfl, h64, HR3.out, hl, by unfold I64; omega, G3⟩
end Go.Proofs.Ytnkkgfeegaiakaa
