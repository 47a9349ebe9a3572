/- Contracts of the draws of tableaux. No condition. -/
import Derived.Test.YtnkkgfeegaiakaaDrawBase
import Derived.Test.YtnkkgfeegaiakaaTabOf
import Derived.Test.YtnkkgfeegaiakaaPlain28
import Derived.Deep.RegionLaw
namespace Go.Proofs.Ytnkkgfeegaiakaa
open Go.RowKit
/-- a slice of slices whose row x is written at place 0 -/
theorem OwSS.put {w : World} {base top : Nat} {v : Value} {xss : List (List Int)} (h : OwSS w base top v xss) {x : Nat} (hx : x < xss.length) {b o : Nat} {A : Option Addr} {n c : Nat} (hv : v = .slice (some ⟨b, o, none⟩) n c) {g cap m : Nat} (hc : w.cell? ⟨b, o + x, none⟩ = some (.slice (some ⟨g, 0, none⟩) m cap)) (hm : m = (rowOf xss x).length) (j : Nat) (y : Int) :
    OwSS (w.setCell ⟨g, j, none⟩ (.int .i64 y)) base top v (xss.set x ((rowOf xss x).set j y)) ∧ base ≤ g ∧ w.grownBy (w.setCell ⟨g, j, none⟩ (.int .i64 y)) (some g) := by
  obtain ⟨V, ho, hr, h3, h4, h5⟩ := h
  subst hv
  have hV : V x = .slice (some ⟨g, 0, none⟩) m cap := by
    obtain ⟨A', c', e, _, _, hA⟩ := ho.rd
    injection e with e1 e2 e3
    obtain ⟨b', o', e4, _, hcl⟩ := hA (by simp; omega)
    rw [e4] at e1
    injection e1 with e1; injection e1 with e5 e6
    have := hcl x (by simp; exact hx)
    rw [← e5, ← e6, hc] at this
    injection this with this
    simp at this
    exact this.symm
  have hrx := hr x hx
  rw [hV, hm] at hrx
  have hst := hrx.stored j y
  have hbg := hrx.lt g rfl
  have hne : ∀ i, i < xss.length → i ≠ x → (V i).ownBlock ≠ some g := fun i hi hix e => by
    rcases Nat.lt_or_gt_of_ne hix with q | q
    · exact h3 i x q hx g e (by rw [hV]; rfl)
    · exact h3 x i q hi g (by rw [hV]; rfl) e
  refine ⟨⟨V, ?_, fun i hi => ?_, fun i j' hij hj => h3 i j' hij (by simpa using hj), h4, fun i hi => h5 i (by simpa using hi)⟩, hbg.1, hst.2⟩
  · rw [List.length_set]
    refine OwR.other (u := .slice (some ⟨g, 0, none⟩) (rowOf xss x).length cap) ho hst.2 ?_
    exact OwR.apart_of_type ho (OwI_is.1 hrx) (by decide)
  · rw [List.length_set] at hi
    by_cases e : i = x
    · subst e
      have er : rowOf (xss.set i ((rowOf xss i).set j y)) i = (rowOf xss i).set j y := by
        rw [rowOf_get (by rw [List.length_set]; exact hi)]; simp
      rw [er, hV, hm]
      exact hst.1
    · have er : rowOf (xss.set x ((rowOf xss x).set j y)) i = rowOf xss i := by
        rw [rowOf_get (by rw [List.length_set]; exact hi), rowOf_get hi, List.getElem_set, if_neg (fun q => e q.symm)]
      rw [er]
      exact (hr i hi).grown hst.2 (.inr (hne i hi e))
theorem OwSS.cur {w w' : World} {base top cb : Nat} {v : Value} {xss : List (List Int)} (h : OwSS w base top v xss) (g : w.grownBy w' (some cb)) (hcb : cb < base) : OwSS w' base top v xss :=
  h.turned (b' := cb) (t' := cb + 1) ⟨g.os, g.tape, g.output, g.size, fun k hk hne => g.block k hk (by intro e; injection e with e; omega)⟩ (.inr (by omega))
theorem OwSS.view {w : World} {base top : Nat} {v : Value} {xss : List (List Int)} (h : OwSS w base top v xss) (h0 : 0 < xss.length) : ∃ bl c, v = .slice (some ⟨bl, 0, none⟩) xss.length c ∧ base ≤ bl := by
  obtain ⟨V, ho, _⟩ := h
  rcases ho.shape with ⟨_, e⟩ | ⟨g, cap, e, h1, _⟩
  · have := congrArg List.length e; simp only [List.length_map, List.length_range, List.length_nil] at this; omega
  · simp only [List.length_map, List.length_range] at e
    exact ⟨g, cap, e, h1⟩
theorem OwSS.rowAt {w : World} {base top bl n c x : Nat} {xss : List (List Int)} (h : OwSS w base top (.slice (some ⟨bl, 0, none⟩) n c) xss) (hx : x < xss.length) (hp : 0 < (rowOf xss x).length) :
    ∃ g cap y, base ≤ g ∧ w.cell? ⟨bl, x, none⟩ = some (.slice (some ⟨g, 0, none⟩) (rowOf xss x).length cap) ∧ w.cell? ⟨g, 0, none⟩ = some (.int .i64 y) ∧ w.frozen? ⟨g, 0, none⟩ = false := by
  obtain ⟨V, ho, hr, _⟩ := h
  have hrx := hr x hx
  obtain ⟨g, cap, e, hb⟩ := hrx.shapeP hp
  rw [e] at hrx
  have hc := ho.cellAt x (by simp; exact hx)
  refine ⟨g, cap, _, hb, ?_, hrx.cellAt 0 hp, hrx.frozenAt 0⟩
  rw [hc, ← e]
  simp
theorem RdSS.one (w : World) (x : Int) : RdSS ((w.alloc (.cells #[.int .i64 x] 3)).alloc (.cells #[.slice (some ⟨w.heap.size, 0, none⟩) 1 1] 38)) (.slice (some ⟨w.heap.size + 1, 0, none⟩) 1 1) [[x]] := by
  have h1 := OwI.one w x w.heap.size (Nat.le_refl _)
  have h2 := OwR.lit (e := 38) (f := (id : Value → Value)) (w.alloc (.cells #[.int .i64 x] 3)) [.slice (some ⟨w.heap.size, 0, none⟩) 1 1] w.heap.size (by simp) (by simp)
  have hsz : (w.alloc (.cells #[.int .i64 x] 3)).heap.size = w.heap.size + 1 := by simp
  rw [hsz] at h2
  have h3 := h1.rd.below ((Below.refl _ _).alloc (Nat.le_refl _) (.cells #[.slice (some ⟨w.heap.size, 0, none⟩) 1 1] 38))
  obtain ⟨A, c, e, q1, q2, q3⟩ := h2.rd
  refine ⟨A, c, e, q1, q2, fun h0 => ?_⟩
  obtain ⟨b, o, e2, hlt, hc⟩ := q3 (by simp)
  refine ⟨b, o, e2, hlt, fun k hk => ?_⟩
  have hk0 : k = 0 := by simp at hk; omega
  subst hk0
  exact ⟨_, hc 0 (by simp), h3⟩
theorem cur_two {w w5 : World} {cb : Nat} {bs : List UInt8} (c : CurAt w5 cb bs) (g : w.grownBy w5 (some cb)) (o1 o2 : Obj) : CurAt ((w5.alloc o1).alloc o2) cb bs ∧ w.grownBy ((w5.alloc o1).alloc o2) (some cb) :=
  ⟨(c.grown (row := none) (World.grownBy_alloc w5 o1 none) (fun r e => by cases e)).grown (row := none) (World.grownBy_alloc _ o2 none) (fun r e => by cases e), grown_trans_row (grown_trans_row g (grown_alloc w5 o1 _)) (grown_alloc _ o2 _)⟩
theorem cell_lt {w : World} {b o : Nat} {u : Value} (h : w.cell? ⟨b, o, none⟩ = some u) : b < w.heap.size := by
  rcases Nat.lt_or_ge b w.heap.size with hlt | hge
  · exact hlt
  · simp [World.cell?, Array.getElem?_eq_none hge] at h
theorem frozen_of_block {w w' : World} {b o : Nat} (h : w'.heap[b]? = w.heap[b]?) : w'.frozen? ⟨b, o, none⟩ = w.frozen? ⟨b, o, none⟩ := by simp [World.frozen?, h]
theorem row2_len {a b : List Int} (h : a.length = b.length) {x : Nat} (hx : x < 2) : (rowOf [a, b] x).length = a.length := by
  have : x = 0 ∨ x = 1 := by omega
  rcases this with rfl | rfl
  · rfl
  · exact h.symm
theorem row2_set {a b : List Int} (h : a.length = b.length) (h6 : a.length ≤ 6) {x : Nat} (hx : x < 2) (y : Int) : (rw_ ([a, b].set x ((rowOf [a, b] x).set 0 y)) 0).length ≤ 6 := by
  have : x = 0 ∨ x = 1 := by omega
  rcases this with rfl | rfl
  · show ((rowOf [a, b] 0).set 0 y).length ≤ 6
    rw [List.length_set, row2_len h (by omega)]; exact h6
  · exact h6
/-- what a row at a drawn place shows, ahead of the list that is picked from and behind it -/
structure RowSeen (w6 w7 : World) (base bl x m g k : Nat) (y : Int) : Prop where
  from_ : base ≤ g
  old : g < w6.heap.size
  cell6 : w6.cell? ⟨bl, x, none⟩ = some (.slice (some ⟨g, 0, none⟩) m k)
  cell7 : w7.cell? ⟨bl, x, none⟩ = some (.slice (some ⟨g, 0, none⟩) m k)
  num : w7.cell? ⟨g, 0, none⟩ = some (.int .i64 y)
  fr : w7.frozen? ⟨g, 0, none⟩ = false
theorem tab_seen {w6 : World} {base top bl n cp x : Nat} {a b : List Int} (h : OwSS w6 base top (.slice (some ⟨bl, 0, none⟩) n cp) [a, b]) (hl : a.length = b.length) (hp : 0 < a.length) (hx : x < 2) (o : Obj) : ∃ g k y, RowSeen w6 (w6.alloc o) base bl x a.length g k y := by
  obtain ⟨g, k, y, hg, r1, r2, r3⟩ := h.rowAt (x := x) hx (by rw [row2_len hl hx]; exact hp)
  rw [row2_len hl hx] at r1
  have hA : Below w6.heap.size w6 (w6.alloc o) := (Below.refl _ _).alloc (Nat.le_refl _) _
  have hg6 := cell_lt r2
  exact ⟨g, k, y, hg, hg6, r1, (hA.cell (p := ⟨bl, x, none⟩) (cell_lt r1)).trans r1, (hA.cell (p := ⟨g, 0, none⟩) hg6).trans r2, (frozen_of_block (hA.block g hg6)).trans r3⟩
theorem tab_seen0 {w6 : World} {base top bl n cp x : Nat} {a b : List Int} (h : OwSS w6 base top (.slice (some ⟨bl, 0, none⟩) n cp) [a, b]) (hl : a.length = b.length) (hp : 0 < a.length) (hx : x < 2) : ∃ g k y, RowSeen w6 w6 base bl x a.length g k y := by
  obtain ⟨g, k, y, hg, r1, r2, r3⟩ := h.rowAt (x := x) hx (by rw [row2_len hl hx]; exact hp)
  rw [row2_len hl hx] at r1
  exact ⟨g, k, y, hg, cell_lt r2, r1, r1, r2, r3⟩
theorem RowSeen.after {w6 w7 w8 : World} {base bl x m g k cb : Nat} {y : Int} (h : RowSeen w6 w7 base bl x m g k y) (g8 : w7.grownBy w8 (some cb)) (hb : cb < bl) (hcb : cb < base) :
    w8.cell? ⟨bl, x, none⟩ = some (.slice (some ⟨g, 0, none⟩) m k) ∧ w8.cell? ⟨g, 0, none⟩ = some (.int .i64 y) ∧ w8.frozen? ⟨g, 0, none⟩ = false := by
  have h1 := h.from_
  have e1 := g8.block bl (cell_lt h.cell7) (by intro e; injection e with e; omega)
  have e2 := g8.block g (cell_lt h.num) (by intro e; injection e with e; omega)
  exact ⟨(World.cell?_of_block (a := ⟨bl, x, none⟩) e1).trans h.cell7, (World.cell?_of_block (a := ⟨g, 0, none⟩) e2).trans h.num, (frozen_of_block e2).trans h.fr⟩
theorem lit6 (w6 : World) : RdI (w6.alloc (.cells #[.int .i64 0, .int .i64 1, .int .i64 2, .int .i64 3, .int .i64 (-1), .int .i64 99] 3)) (.slice (some ⟨w6.heap.size, 0, none⟩) 6 6) [0, 1, 2, 3, -1, 99] := OwI.rd (OwR.lit (e := 3) (f := Value.int .i64) w6 [0, 1, 2, 3, -1, 99] w6.heap.size (Nat.le_refl _) (by simp))
theorem lit6c (w5 : World) {w6 : World} {cb : Nat} (g : (w5.alloc (.cells #[.int .i64 0, .int .i64 1, .int .i64 2, .int .i64 3, .int .i64 (-1), .int .i64 99] 3)).grownBy w6 (some cb)) (h : cb < w5.heap.size) : RdI w6 (.slice (some ⟨w5.heap.size, 0, none⟩) 6 6) [0, 1, 2, 3, -1, 99] :=
  (OwI.cur (base := w5.heap.size) (OwR.lit (e := 3) (f := Value.int .i64) w5 [0, 1, 2, 3, -1, 99] w5.heap.size (Nat.le_refl _) (by simp)) g h).rd
theorem tab_put {w8 : World} {base top bl n cp x g k : Nat} {a b : List Int} (h : OwSS w8 base top (.slice (some ⟨bl, 0, none⟩) n cp) [a, b]) (hx : x < 2) (hl : a.length = b.length) (hc : w8.cell? ⟨bl, x, none⟩ = some (.slice (some ⟨g, 0, none⟩) a.length k)) (y : Int) :
    OwSS (w8.setCell ⟨g, 0, none⟩ (.int .i64 y)) base top (.slice (some ⟨bl, 0, none⟩) n cp) ([a, b].set x ((rowOf [a, b] x).set 0 y)) ∧ w8.grownBy (w8.setCell ⟨g, 0, none⟩ (.int .i64 y)) (some g) := by
  have h1 := OwSS.put (A := none) h (x := x) hx (b := bl) (o := 0) rfl (g := g) (cap := k) (m := a.length) (by rw [Nat.zero_add]; exact hc) (row2_len hl hx).symm 0 y
  exact ⟨h1.1, h1.2.2⟩
def TabD (t : List (List Int)) : Prop := (rw_ t 0).length ≤ 6
theorem tab_rows {l : List UInt8} (hd : DyckP l) (hl : l.length ≤ 12) : (tuL l l.length).length = (tdL l l.length).length ∧ (tuL l l.length).length ≤ 6 := by
  have hT := tstAll_sound tT_all hd (by omega)
  unfold tT at hT
  simp only [Bool.and_eq_true, decide_eq_true_eq] at hT
  have h1 := hT.1
  unfold potR at h1
  by_cases hq : TabP (tabR l).1
  · have e : (tabR l).1 = [tuL l l.length, tdL l l.length] := by unfold tabR; rw [if_pos hd]
    rw [if_pos hq] at h1
    injection h1 with h2 _
    rw [e] at hq h2
    have h3 : (tuL l l.length).length = (tdL l l.length).length := hq.2.1
    have h4 := congrArg List.length h2
    rw [potL_len] at h4
    have h5 : 2 * (tuL l l.length).length = l.length := h4
    exact ⟨h3, by omega⟩
  · rw [if_neg hq] at h1
    injection h1 with _ h2
    cases h2
set_option maxRecDepth 8000 in
set_option maxHeartbeats 8000000 in
theorem l11Any_any (cb : Nat) (bs : List UInt8) (w : World) (hc : CurAt w cb bs) : Calls Try.prog 175 #[.pointer (some ⟨cb, 0, none⟩)] w (RetDSS w cb bs TabD) := by
  have hcb := hc.lt
  go_enter Try.func175, Try.ntmps175
  go_wp2_with fail
  refine (l2Path_any cb bs w hc).mono ?_; rintro e w1 ⟨s, rfl, hs, c1, g1⟩
  go_wp2_with fail
  refine (specTableauOf_any s w1 (by omega)).mono ?_; rintro e w2 ⟨r, rfl, o2, b2⟩
  have c2 := c1.below b2
  have G2 := grown_trans_row g1 (grown_below (cb := cb) b2)
  have o2 := o2.mono g1.size
  have hs12 : (L s).length ≤ 12 := by rw [L_len]; exact hs
  clear c1 b2 g1 hc
  by_cases hd : DyckP (L s)
  · have hlen := tab_rows hd hs12
    have e : (tabR (L s)).1 = [tuL (L s) (L s).length, tdL (L s) (L s).length] := by unfold tabR; rw [if_pos hd]
    rw [e] at o2
    generalize tuL (L s) (L s).length = a at *
    generalize tdL (L s) (L s).length = b at *
    clear e hd
    obtain ⟨bl, cp, rfl, hbl⟩ := o2.view (by simp)
    have hPd : TabD [a, b] := by simp [TabD, rw_]; exact hlen.2
    by_cases hp : 0 < a.length
    · have hpi : (0 : Int) < (a.length : Int) := by omega
      have hpb : 0 < b.length := by omega
      obtain ⟨g0, c0, y0, _, d0, _, _⟩ := o2.rowAt (x := 0) (by simp) hp
      have d0' : w2.cell? ⟨bl, 0, none⟩ = some (.slice (some ⟨g0, 0, none⟩) a.length c0) := d0
      have HO8 := Lib.hid (l1Once_any cb 8 bs _ c2 (by omega) (by omega))
      go_wp2_with (go_at_call 237; refine HO8.out.mono ?_; rintro e w5 ⟨z5, rfl, c5, g5⟩; have o5 := OwSS.cur o2 g5 hcb; have G5 := grown_trans_row G2 g5)
      · clear HO8 d0 d0' o2 c2 G2 g5
        have C5 := Lib.hid c5
        have O5 := Lib.hid o5
        have H5 := Lib.hid G5
        have HL := Lib.hid hlen
        clear c5 o5 G5 hlen o2
        go_region_law (first
          | (go_simp
             go_at_call 188
             have cD5 : CurAt w5.drew cb bs := C5.out
             have H1 : Calls Try.prog 188 #[.pointer (some ⟨cb, 0, none⟩), .int .i64 2] w5.drew (RetX w5.drew cb bs 2) := l1Below_any cb 2 bs w5.drew cD5 (by omega) (by omega)
             with_reducible refine H1.mono ?_
             clear H1 cD5
             rintro e w6 ⟨x, rfl, hx, c6, g6⟩
             have g6' : w5.grownBy w6 (some cb) := grown_trans_row (grown_draws w5 1 _) g6
             have O6 := Lib.hid (OwSS.cur O5.out g6' hcb)
             have G6 := Lib.hid (grown_trans_row H5.out g6')
             obtain ⟨g7, k7, y7, hs⟩ := tab_seen O6.out HL.out.1 hp hx (.cells #[.int .i64 0, .int .i64 1, .int .i64 2, .int .i64 3, .int .i64 (-1), .int .i64 99] 3)
             have r1 := hs.cell6
             have r2 := hs.cell7
             have HS := Lib.hid hs
             have hxi : (x : Int) < 2 := by omega
             have HX := Lib.hid hx
             have C6 := Lib.hid c6
             clear hs c6 g6 g6')
          | (go_simp
             go_at_call 188
             have cW : CurAt (w5.alloc (.cells #[.int .i64 0, .int .i64 1, .int .i64 2, .int .i64 3, .int .i64 (-1), .int .i64 99] 3)) cb bs := C5.out.below ((Below.refl _ _).alloc (Nat.le_refl _) (.cells #[.int .i64 0, .int .i64 1, .int .i64 2, .int .i64 3, .int .i64 (-1), .int .i64 99] 3))
             have cD5 : CurAt (w5.alloc (.cells #[.int .i64 0, .int .i64 1, .int .i64 2, .int .i64 3, .int .i64 (-1), .int .i64 99] 3)).drew cb bs := cW
             have H1 : Calls Try.prog 188 #[.pointer (some ⟨cb, 0, none⟩), .int .i64 2] (w5.alloc (.cells #[.int .i64 0, .int .i64 1, .int .i64 2, .int .i64 3, .int .i64 (-1), .int .i64 99] 3)).drew (RetX (w5.alloc (.cells #[.int .i64 0, .int .i64 1, .int .i64 2, .int .i64 3, .int .i64 (-1), .int .i64 99] 3)).drew cb bs 2) := l1Below_any cb 2 bs (w5.alloc (.cells #[.int .i64 0, .int .i64 1, .int .i64 2, .int .i64 3, .int .i64 (-1), .int .i64 99] 3)).drew cD5 (by omega) (by omega)
             with_reducible refine H1.mono ?_
             clear H1 cD5 cW
             rintro e w6 ⟨x, rfl, hx, c6, g6⟩
             have g6' : (w5.alloc (.cells #[.int .i64 0, .int .i64 1, .int .i64 2, .int .i64 3, .int .i64 (-1), .int .i64 99] 3)).grownBy w6 (some cb) := grown_trans_row (grown_draws (w5.alloc (.cells #[.int .i64 0, .int .i64 1, .int .i64 2, .int .i64 3, .int .i64 (-1), .int .i64 99] 3)) 1 _) g6
             have O6 := Lib.hid (OwSS.cur (O5.out.below ((Below.refl _ _).alloc (Nat.le_refl _) (.cells #[.int .i64 0, .int .i64 1, .int .i64 2, .int .i64 3, .int .i64 (-1), .int .i64 99] 3))) g6' hcb)
             have G6 := Lib.hid (grown_trans_row (grown_trans_row H5.out (grown_alloc w5 (.cells #[.int .i64 0, .int .i64 1, .int .i64 2, .int .i64 3, .int .i64 (-1), .int .i64 99] 3) _)) g6')
             obtain ⟨g7, k7, y7, hs⟩ := tab_seen0 O6.out HL.out.1 hp hx
             have r1 := hs.cell6
             have HS := Lib.hid hs
             have HP6 := Lib.hid (lit6c w5 g6' C5.out.lt)
             have hxi : (x : Int) < 2 := by omega
             have HX := Lib.hid hx
             have C6 := Lib.hid c6
             clear hs c6 g6 g6')
          | (go_simp
             go_at_call_of 238 (Value.slice (some ⟨w6.heap.size, 0, none⟩) 6 6)
             refine (l1PickInt_any cb bs (w6.alloc (.cells #[.int .i64 0, .int .i64 1, .int .i64 2, .int .i64 3, .int .i64 (-1), .int .i64 99] 3)) (C6.out.below ((Below.refl _ _).alloc (Nat.le_refl _) _)) _ [0, 1, 2, 3, -1, 99] (lit6 w6) (by have := C6.out.lt; simp [Value.ownBlock]; omega) (by simp) (by simp)).mono ?_
             rintro e w8 ⟨y, hy, rfl, c8, g8⟩
             obtain ⟨s1, s2, s3⟩ := HS.out.after g8 (by omega) hcb
             have O8 := Lib.hid (OwSS.cur (O6.out.below ((Below.refl _ _).alloc (Nat.le_refl _) _)) g8 hcb)
             have C8 := Lib.hid c8
             have G8 := Lib.hid (grown_trans_row (grown_trans_row G6.out (grown_alloc w6 (.cells #[.int .i64 0, .int .i64 1, .int .i64 2, .int .i64 3, .int .i64 (-1), .int .i64 99] 3) _)) g8)
             have S1 := Lib.hid s1
             clear c8 g8)
          | (go_simp
             go_at_call_of 238 (Value.slice (some ⟨w5.heap.size, 0, none⟩) 6 6)
             refine (l1PickInt_any cb bs w6 C6.out _ [0, 1, 2, 3, -1, 99] HP6.out (by have := C5.out.lt; simp [Value.ownBlock]; omega) (by simp) (by simp)).mono ?_
             rintro e w8 ⟨y, hy, rfl, c8, g8⟩
             obtain ⟨s1, s2, s3⟩ := HS.out.after g8 (by omega) hcb
             have O8 := Lib.hid (OwSS.cur O6.out g8 hcb)
             have C8 := Lib.hid c8
             have G8 := Lib.hid (grown_trans_row G6.out g8)
             have S1 := Lib.hid s1
             clear c8 g8))
        all_goals (
          have hput := tab_put O8.out HX.out HL.out.1 S1.out y
          have hPd2 := row2_set HL.out.1 HL.out.2 HX.out y
          have hg7 := HS.out.from_
          have cP := C8.out.other (base := w.heap.size) (v := .slice (some ⟨g7, 0, none⟩) a.length k7) hput.2 (fun r e => by have e : g7 = r := Option.some.inj e; omega) hcb
          have gP := grown_new (base := w.heap.size) (v := .slice (some ⟨g7, 0, none⟩) a.length k7) G8.out hput.2 (fun r e => by have e : g7 = r := Option.some.inj e; omega) (Nat.le_refl _)
          have OP := Lib.hid hput.1
          clear hput
          have HO := Lib.hid (l1Once_any cb 20 bs _ cP (by omega) (by omega))
          go_wp2_with (go_at_call 237; refine HO.out.mono ?_; rintro e w9 ⟨z9, rfl, c9, g9⟩)
          · have q := cur_two c9 (grown_trans_row gP g9) (.cells #[.int .i64 1] 3) (.cells #[.slice (some ⟨w9.heap.size, 0, none⟩) 1 1] 38)
            go_ret
            exact ⟨_, [[1]], rfl, RdSS.one w9 1, by simp [TabD, rw_], q.1, q.2⟩
          · go_ret
            exact ⟨_, _, rfl, (OwSS.cur OP.out g9 hcb).rd, hPd2, c9, grown_trans_row gP g9⟩)
      · clear HO8 d0 d0' o2 c2 G2 g5
        have HO := Lib.hid (l1Once_any cb 20 bs _ c5 (by omega) (by omega))
        go_wp2_with (go_at_call 237; refine HO.out.mono ?_; rintro e w9 ⟨z9, rfl, c9, g9⟩)
        · have q := cur_two c9 (grown_trans_row G5 g9) (.cells #[.int .i64 1] 3) (.cells #[.slice (some ⟨w9.heap.size, 0, none⟩) 1 1] 38)
          go_ret
          exact ⟨_, [[1]], rfl, RdSS.one w9 1, by simp [TabD, rw_], q.1, q.2⟩
        · go_ret
          exact ⟨_, _, rfl, (OwSS.cur o5 g9 hcb).rd, hPd, c9, grown_trans_row G5 g9⟩
    · have hpi : ¬ (0 : Int) < (a.length : Int) := by omega
      have ha0 : a = [] := List.eq_nil_of_length_eq_zero (by omega)
      have hb0 : b = [] := List.eq_nil_of_length_eq_zero (by omega)
      subst ha0; subst hb0
      obtain ⟨u0, hu0, hr0⟩ : ∃ u, w2.cell? ⟨bl, 0, none⟩ = some u ∧ RdI w2 u [] := by
        obtain ⟨b', o', e, _, hc⟩ := o2.rd.at_ (by simp)
        injection e with e; injection e with e1 e2
        obtain ⟨u, hu, hr⟩ := hc 0 (by simp)
        rw [← e1, ← e2] at hu
        exact ⟨u, hu, hr⟩
      obtain ⟨A0, n0, rfl, _⟩ := hr0
      have HO := Lib.hid (l1Once_any cb 20 bs _ c2 (by omega) (by omega))
      go_wp2_with (go_at_call 237; refine HO.out.mono ?_; rintro e w9 ⟨z9, rfl, c9, g9⟩)
      · have q := cur_two c9 (grown_trans_row G2 g9) (.cells #[.int .i64 1] 3) (.cells #[.slice (some ⟨w9.heap.size, 0, none⟩) 1 1] 38)
        go_ret
        exact ⟨_, [[1]], rfl, RdSS.one w9 1, by simp [TabD, rw_], q.1, q.2⟩
      · go_ret
        exact ⟨_, _, rfl, (OwSS.cur o2 g9 hcb).rd, hPd, c9, grown_trans_row G2 g9⟩
  · have e : (tabR (L s)).1 = [] := by unfold tabR; rw [if_neg hd]
    rw [e] at o2
    clear e hd
    have hPd : TabD [] := by simp [TabD, rw_]
    have HOW := Lib.hid o2
    obtain ⟨A0, n0, rfl, _⟩ := o2.rd
    have HO := Lib.hid (l1Once_any cb 20 bs _ c2 (by omega) (by omega))
    go_wp2_with (go_at_call 237; refine HO.out.mono ?_; rintro e w9 ⟨z9, rfl, c9, g9⟩)
    · have q := cur_two c9 (grown_trans_row G2 g9) (.cells #[.int .i64 1] 3) (.cells #[.slice (some ⟨w9.heap.size, 0, none⟩) 1 1] 38)
      go_ret
      exact ⟨_, [[1]], rfl, RdSS.one w9 1, by simp [TabD, rw_], q.1, q.2⟩
    · go_ret
      exact ⟨_, _, rfl, (OwSS.cur HOW.out g9 hcb).rd, hPd, c9, grown_trans_row G2 g9⟩
theorem DrawPathOfTableau_any (v : Value) (bs : List UInt8) (w : World) (hv : RdR bf w v bs) : Calls Try.prog 22 #[v] w (RetXSS w TabD) := by
  go_enter Try.func22, Try.ntmps22
  go_wp2_with fail
  refine (l1New_any v bs w hv).mono ?_; rintro e w1 ⟨rfl, c1, b1⟩
  go_wp2_with fail
  refine (l11Any_any w.heap.size bs w1 c1).mono ?_; rintro e w2 ⟨r, xs, rfl, o2, hx, c2, g2⟩
  go_wp2_with fail
  go_ret
  exact ⟨r, xs, rfl, o2, hx, below_cur b1 g2⟩
end Go.Proofs.Ytnkkgfeegaiakaa
