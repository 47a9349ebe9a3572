/- Contract of the program's TrianglesOf: the sorted triangles of the tree. Condition: a number of Go's. -/
import Derived.Test.YtnkkgfeegaiakaaTreeTri
import Derived.Test.YtnkkgfeegaiakaaSortRows
import Derived.Test.YtnkkgfeegaiakaaSSMark
namespace Go.Proofs.Ytnkkgfeegaiakaa
open Go.RowKit
def toR (n : Int) (d : List (List Int)) : List (List Int) × Bool := if TriP n d then (trA n d n.toNat, true) else ([], false)
theorem TriP.two {n : Int} {d : List (List Int)} (h : TriP n d) : Two d := fun x hx => by
  obtain ⟨i, hi, e⟩ := List.getElem_of_mem hx
  obtain ⟨p, q, e2, _⟩ := diag_two (h.2.2 i hi).1
  exact ⟨p, q, by rw [← e2, rowOf_get hi, e]⟩
theorem tree_size {n : Int} {d : List (List Int)} (h : TriP n d) : ((tOf d 10 0 (n - 1)).size : Int) = n - 2 := by
  have hn := h.1
  obtain ⟨h1, _, _⟩ := tOf_facts h.f 10 0 (n - 1) (by omega) (by omega) (by omega) (by omega) (Fl.whole h.f (by omega)) (.inr ⟨rfl, rfl⟩)
  omega
theorem trA_len {n : Int} {d : List (List Int)} (h : TriP n d) : ((trA n d n.toNat).length : Int) = n - 2 := by
  have hn := h.1
  rw [← triples_eq h 10 (by omega), putsG_len, corn_len]
  exact tree_size h
theorem sum_le_mul {n B : Nat} {g : Nat → Nat} (h : ∀ i, i < n → g i ≤ B) : sumTo n g ≤ n * B := by
  induction n with
  | zero => simp [sumTo]
  | succ n ih =>
    rw [sumTo_succ, Nat.succ_mul]
    have := ih fun i hi => h i (by omega)
    have := h n (by omega)
    omega
theorem toR_off (n : Int) (d : List (List Int)) : off (toR n d).1 (toR n d).1.length ≤ 1000 := by
  unfold toR
  by_cases h : TriP n d
  · rw [if_pos h]
    have hn := h.1
    have hl := trA_len h
    have h3 : ∀ i, i < (trA n d n.toNat).length → (rowOf (trA n d n.toNat) i).length ≤ 3 := fun i hi => by
      rw [rowOf_get hi]
      obtain ⟨a, b, c, e, _⟩ := (trA_mem (by omega) _).1 (List.getElem_mem hi)
      rw [e]; simp
    have := sum_le_mul h3
    show off (trA n d n.toNat) (trA n d n.toNat).length ≤ 1000
    unfold off
    omega
  · rw [if_neg h]; simp [off, sumTo]
theorem Spine.blk {w : World} {base : Nat} {v : Value} {Ps : List (Value × List Int)} (h : Spine w base v Ps) {g : Nat} (hg : v.ownBlock = some g) : ∃ cap, v = .slice (some ⟨g, 0, none⟩) Ps.length cap ∧ base ≤ g := by
  rcases OwR.shape h with ⟨e, _⟩ | ⟨g', cap, e, hb, _⟩
  · rw [e] at hg; cases hg
  · rw [e] at hg
    have e2 : g' = g := Option.some.inj hg
    subst e2
    exact ⟨cap, by simpa using e, hb⟩
set_option maxRecDepth 8000 in
set_option maxHeartbeats 2000000 in
theorem implTrianglesOf_any (n : Int) (v : Value) (d : List (List Int)) (w : World) (hv : RdSS w v d) (h64 : I64 n) :
    Calls Try.prog 20 #[.int .i64 n, v] w (RetSSB w (toR n d)) := by
  have hT := implIsTriangulation_any n v d w hv h64
  obtain ⟨A, c0, rfl, hc, hll, _⟩ := id hv
  have HV := Lib.hid hv
  by_cases hP : TriP n d
  · rw [decide_eq_true hP] at hT
    have HT := Lib.hid hT
    have hn := hP.1
    have HR := Lib.hid (show toR n d = (putsG [] (fun a b => decide (cmpL a b < 0)) (corn (tOf d 10 0 (n - 1)) 0 (n - 1)), true) by unfold toR; rw [if_pos hP, triples_eq hP 10 (by omega)])
    have HSZ := Lib.hid (tree_size hP)
    have H2 := Lib.hid hP.two
    have ew : IntKind.i64.wrap (n - 1) = n - 1 := IntWalk.i64_in _ (by omega)
    clear hP hT hv
    obtain ⟨m, hm⟩ : ∃ m, m = n - 1 := ⟨_, rfl⟩
    have hmb : 0 ≤ m ∧ m ≤ 10 := by omega
    rw [← hm] at ew
    have HM := Lib.hid hm
    have hmr : n - 1 = m := hm.symm
    clear hm
    go_enter Try.func20, Try.ntmps20
    go_wp2_with fail
    refine HT.out.mono ?_; clear HT; rintro e w1 ⟨rfl, q, rfl⟩
    have HTR := Lib.hid (treeOf_any n d H2.out 10 0 m _ (w.drewN q) (by omega) (by omega) hmb (HV.out.below (below_draws w q)))
    go_wp2_with fail
    refine HTR.out.mono ?_; clear HTR; rintro e w2 ⟨tv, rfl, tt, b2⟩
    obtain ⟨pt, rfl⟩ := TreeAt.ptr _ tt
    have B2 : Below w.heap.size w w2 := below_then (below_draws w q) b2
    have bA : Below w2.heap.size w2 (w2.alloc (.cells #[] 38)) := (Below.refl _ _).alloc (Nat.le_refl _) _
    have bB : Below (w2.alloc (.cells #[] 38)).heap.size (w2.alloc (.cells #[] 38)) ((w2.alloc (.cells #[] 38)).alloc (.cells #[] 38)) := (Below.refl _ _).alloc (Nat.le_refl _) _
    have sA := (Spine.empty_ w2 w.heap.size B2.size).below bB
    have sB := Spine.empty_ (w2.alloc (.cells #[] 38)) w.heap.size (Nat.le_trans B2.size bA.size)
    have hsz : (w2.alloc (.cells #[] 38)).heap.size = w2.heap.size + 1 := by simp
    rw [hsz] at sB
    have BB := below_then B2 (below_then bA bB)
    have tB := TreeAt.below (below_then bA bB) _ tt
    have h2 : T2 ((w2.alloc (.cells #[] 38)).alloc (.cells #[] 38)) w.heap.size (.slice (some ⟨w2.heap.size, 0, none⟩) 0 0) (.slice (some ⟨w2.heap.size + 1, 0, none⟩) 0 0) [] [] := ⟨sA, RowsOk.nil_ _ _, sB, RowsOk.nil_ _ _, fun g h1 h2 => by simp [Value.ownBlock] at h1 h2; omega⟩
    have hgs := B2.size
    clear sA sB bA bB hsz tt b2
    go_wp2_with fail
    generalize (w2.alloc (.cells #[] 38)).alloc (.cells #[] 38) = w3 at *
    have HTI := Lib.hid (tri_any (tOf d 10 0 (n - 1)) (.pointer pt) 0 m w3 w.heap.size _ _ [] [] (by rw [HM.out] at tB; exact tB) (by have := HSZ.out; omega) (by have := HSZ.out; omega) h2 BB.size (by have := HSZ.out; simp; omega) (by have := HSZ.out; simp; omega))
    refine HTI.out.mono ?_; clear HTI; rintro e w4 ⟨cv, sv, Cn, Sn, rfl, h4, mc, ms, k4, nc, ns⟩
    have hcb : ∃ g, cv.ownBlock = some g := by
      rcases nc with e | ⟨g, e, _⟩
      · exact ⟨_, e⟩
      · exact ⟨g, e⟩
    obtain ⟨g, hg⟩ := hcb
    rw [List.nil_append] at h4
    obtain ⟨cap, rfl, hgb⟩ := h4.c.blk hg
    have B4 : Below w.heap.size w w4 := ⟨k4.os.trans BB.os, k4.tape.trans BB.tape, k4.output.trans BB.output, Nat.le_trans BB.size k4.size, fun i hi => (k4.block i (Nat.lt_of_lt_of_le hi BB.size) (by simp [Value.ownBlock]; omega) (by simp [Value.ownBlock]; omega)).trans (BB.block i hi)⟩
    have hcl : (Cn.length : Int) = n - 2 := by
      have := congrArg List.length mc
      rw [List.length_map, corn_len] at this
      have := HSZ.out
      omega
    have HSORT := Lib.hid (sortRows_any g cap Cn w4 w.heap.size h4.c h4.cr (by omega))
    have HEE := Lib.hid (show toR n d = ((srtG dP ltP Cn Cn.length).map (·.2), true) by
      rw [HR.out, srtG_all]
      congr 1
      have := putsG_map dP [] (fun a b => decide (cmpL a b < 0)) (fun (q : Value × List Int) => q.2) rfl Cn
      rw [HM.out] at mc
      rw [← mc, ← this]; rfl)
    clear h4 mc ms k4 nc ns h2 BB tB hcl
    go_wp2_with fail
    refine HSORT.out.mono ?_; rintro e w5 ⟨rfl, s5, r5, g5⟩
    have HSS := Lib.hid (s5.ss r5)
    have HB5 := Lib.hid (B4.grown g5 B4.size (fun i hi => by injection hi with hi; omega))
    clear s5 r5 g5
    go_wp2_with fail
    go_ret2
    exact RetSSB.mk HEE.out HSS.out HB5.out
  · rw [decide_eq_false hP] at hT
    have HT := Lib.hid hT
    have HR := Lib.hid (show toR n d = ([], false) by unfold toR; rw [if_neg hP])
    clear hP hT hv
    go_enter Try.func20, Try.ntmps20
    go_wp2_with fail
    refine HT.out.mono ?_; clear HT; rintro e w1 ⟨rfl, q0, rfl⟩
    go_wp2_with fail
    go_ret2
    exact RetSSB.mk HR.out ((Spine.empty_ (w.drewN q0) w.heap.size (Nat.le_refl _)).ss (RowsOk.nil_ _ _)) ((below_draws w q0).alloc (Nat.le_refl _) _)
end Go.Proofs.Ytnkkgfeegaiakaa
