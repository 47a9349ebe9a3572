/- Contracts of TriangulationOf, the program's and the reference's: the diagonals of the tree that a text is, in order. Condition: a text's size. -/
import Derived.Test.YtnkkgfeegaiakaaTriCut
import Derived.Test.YtnkkgfeegaiakaaTriOfImpl
namespace Go.Proofs.Ytnkkgfeegaiakaa
open Go.RowKit
set_option maxRecDepth 8000 in
set_option maxHeartbeats 2000000 in
theorem specTriangulationOf_any (s : ByteArray) (w : World) (hs : s.size ≤ 1099511627776) :
    Calls Try.prog 12 #[.string s] w (RetSSB w (tgR (L s))) := by
  have HIB := specIsBinary_any s w hs
  have HND := Lib.hid (fun wq => specNodesOf_any s wq hs)
  have sp0 := Spine.empty_ w w.heap.size (Nat.le_refl _)
  have B0 : Below w.heap.size w (w.alloc (.cells #[] 38)) := (Below.refl _ _).alloc (Nat.le_refl _) _
  rcases hT : ptR (L s) with _ | T
  · rw [hT] at HIB
    have HR := Lib.hid (tgR_none hT)
    clear hT HND
    go_enter Try.func12, Try.ntmps12
    go_wp2_with fail
    refine HIB.mono ?_; rintro e w1 ⟨rfl, rfl⟩
    go_wp2_with fail
    go_ret2
    exact RetSSB.mk HR.out (sp0.ss (RowsOk.nil_ _ _)) B0
  · rw [hT] at HIB
    have HR := Lib.hid (tgR_some hT)
    rw [ndR_some hT] at HND
    have h8 := (ptR_text.1 hT).2
    obtain rfl := S_eq (ptR_text.1 hT).1
    have hb0 := B0.size
    obtain ⟨m, hm⟩ : ∃ m : Int, m = (T.size : Int) + 2 := ⟨_, rfl⟩
    have HCUT := Lib.hid (l7Cut_any m (by omega) T 0 (m - 1) w.heap.size 0 [] _ w.heap.size h8 (by omega) (by omega) (by omega) sp0 (RowsOk.nil_ _ _) (fun q hq => by cases hq) (by simp; omega) hb0)
    have HC2 := Lib.hid (show (cutN m T 0 (m - 1)).foldl (putG [] ltL) ([] : List (List Int)) = putsG [] ltL (dgs T) by
      have := cutN_all T
      rw [← hm, show (T.size : Int) + 1 = m - 1 by omega] at this
      rw [this]; rfl)
    have w1 : IntKind.i64.wrap ((T.size : Int) + 2) = m := by rw [← hm]; exact IntWalk.i64_in _ (by omega)
    have w2 : IntKind.i64.wrap (m - 1) = m - 1 := IntWalk.i64_in _ (by omega)
    have HB0 := Lib.hid B0
    clear hT hs sp0 B0 hb0
    have hms : (T.size : Int) + 2 = m := hm.symm
    clear hm
    go_enter Try.func12, Try.ntmps12
    go_wp2_with fail
    refine HIB.mono ?_; rintro e w1 ⟨rfl, rfl⟩
    go_wp2_with fail
    refine (HND.out _).mono ?_; rintro e w1 ⟨rfl, rfl⟩
    go_wp2_with fail
    refine HCUT.out.mono ?_; rintro e w3 ⟨g, cap, Ps, rfl, s3, r3, m3, t3, b3⟩
    have HSS := Lib.hid (s3.ss r3)
    have HEE := Lib.hid (show tgR (L (S (txT T))) = (Ps.map (·.2), true) by rw [HR.out, m3, ← HC2.out]; rfl)
    have HB3 := Lib.hid (below_then HB0.out b3)
    clear s3 r3 m3 t3 b3 HCUT
    go_wp2_with fail
    go_ret2
    exact RetSSB.mk HEE.out HSS.out HB3.out
set_option maxRecDepth 8000 in
set_option maxHeartbeats 2000000 in
theorem implTriangulationOf_any (s : ByteArray) (w : World) (hs : s.size ≤ 1099511627776) :
    Calls Try.prog 13 #[.string s] w (RetSSB w (tgR (L s))) := by
  have HPT := parseTree_any s w hs
  rcases hT : ptR (L s) with _ | T
  · rw [hT] at HPT
    have HR := Lib.hid (tgR_none hT)
    clear hT
    go_enter Try.func13, Try.ntmps13
    go_wp2_with fail
    refine HPT.mono ?_; rintro e w1 ⟨p, rfl, t1, b1⟩
    have HB1 := Lib.hid b1
    have HS1 := Lib.hid (Spine.empty_ w1 w.heap.size b1.size)
    have HB2 := Lib.hid (b1.alloc b1.size (.cells #[] 38))
    clear t1 b1
    go_wp2_with fail
    go_ret2
    exact RetSSB.mk HR.out (HS1.out.ss (RowsOk.nil_ _ _)) HB2.out
  · rw [hT] at HPT
    have HR := Lib.hid (tgR_some hT)
    have h8 := (ptR_text.1 hT).2
    obtain ⟨m, hm⟩ : ∃ m : Int, m = (T.size : Int) + 1 := ⟨_, rfl⟩
    have hms : (T.size : Int) + 1 = m := hm.symm
    have HM := Lib.hid hm
    have hmb : 0 ≤ m ∧ m ≤ 10 := by omega
    have w1 : IntKind.i64.wrap ((T.size : Int) + 1) = m := by rw [← hm]; exact IntWalk.i64_in _ (by omega)
    clear hT hm
    go_enter Try.func13, Try.ntmps13
    go_wp2_with fail
    refine HPT.mono ?_; rintro e w0 ⟨pt, rfl, tt, b0⟩
    have HN := Lib.hid (nodes_any T _ w0 tt (by show T.size ≤ 1000; omega))
    go_wp2_with fail
    refine HN.out.mono ?_; rintro e w2 ⟨rfl, q2, rfl⟩
    have tt2 : TreeAt (w0.drewN q2) (.pointer pt) T := tt.below (T := T) (below_draws _ q2)
    have B2 : Below w.heap.size w (w0.drewN q2) := below_then b0 (below_draws _ q2)
    clear tt b0 HN
    generalize w0.drewN q2 = w2 at *
    have bA : Below w2.heap.size w2 (w2.alloc (.cells #[] 38)) := (Below.refl _ _).alloc (Nat.le_refl _) _
    have bB : Below (w2.alloc (.cells #[] 38)).heap.size (w2.alloc (.cells #[] 38)) ((w2.alloc (.cells #[] 38)).alloc (.cells #[] 38)) := (Below.refl _ _).alloc (Nat.le_refl _) _
    have sA := (Spine.empty_ w2 w.heap.size B2.size).below bB
    have sB := Spine.empty_ (w2.alloc (.cells #[] 38)) w.heap.size (Nat.le_trans B2.size bA.size)
    have hsz : (w2.alloc (.cells #[] 38)).heap.size = w2.heap.size + 1 := by simp
    rw [hsz] at sB
    have BB := below_then B2 (below_then bA bB)
    have tB := TreeAt.below (below_then bA bB) _ tt2
    have h2 : T2 ((w2.alloc (.cells #[] 38)).alloc (.cells #[] 38)) w.heap.size (.slice (some ⟨w2.heap.size, 0, none⟩) 0 0) (.slice (some ⟨w2.heap.size + 1, 0, none⟩) 0 0) [] [] := ⟨sA, RowsOk.nil_ _ _, sB, RowsOk.nil_ _ _, fun g h1 h2 => by simp [Value.ownBlock] at h1 h2; omega⟩
    have hgs := B2.size
    clear sA sB bA bB hsz tt2
    go_wp2_with fail
    generalize (w2.alloc (.cells #[] 38)).alloc (.cells #[] 38) = w3 at *
    have HTI := Lib.hid (tri_any T (.pointer pt) 0 m w3 w.heap.size _ _ [] [] tB (by have := HM.out; omega) (by have := HM.out; omega) h2 BB.size (by simp; omega) (by simp; omega))
    refine HTI.out.mono ?_; clear HTI; rintro e w4 ⟨cv, sv, Cn, Sn, rfl, h4, mc, ms, k4, nc, ns⟩
    have hcb : ∃ g, sv.ownBlock = some g := by
      rcases ns with e | ⟨g, e, _⟩
      · exact ⟨_, e⟩
      · exact ⟨g, e⟩
    obtain ⟨g, hg⟩ := hcb
    rw [List.nil_append, List.nil_append] at h4
    obtain ⟨cap, rfl, hgb⟩ := h4.s.blk hg
    have B4 : Below w.heap.size w w4 := ⟨k4.os.trans BB.os, k4.tape.trans BB.tape, k4.output.trans BB.output, Nat.le_trans BB.size k4.size, fun i hi => (k4.block i (Nat.lt_of_lt_of_le hi BB.size) (by simp [Value.ownBlock]; omega) (by simp [Value.ownBlock]; omega)).trans (BB.block i hi)⟩
    have hcl : Sn.length ≤ 12 := by
      have h1 := congrArg List.length ms
      rw [List.length_map, HM.out, (sid_perm T).length_eq, dgs_len] at h1
      omega
    have HSORT := Lib.hid (sortRows_any g cap Sn w4 w.heap.size h4.s h4.sr hcl)
    have HEE := Lib.hid (show tgR (L s) = ((srtG dP ltP Sn Sn.length).map (·.2), true) by
      rw [HR.out, srtG_all]
      congr 1
      have := putsG_map dP [] ltL (fun (q : Value × List Int) => q.2) rfl Sn
      rw [HM.out] at ms
      rw [← tg_sid, ← ms, ← this]; rfl)
    obtain ⟨Ac, cc, rfl⟩ := h4.c.shape
    clear h4 mc ms k4 nc ns h2 BB tB hcl
    go_wp2_with fail
    refine HSORT.out.mono ?_; rintro e w5 ⟨rfl, s5, r5, g5⟩
    have HSS := Lib.hid (s5.ss r5)
    have HB5 := Lib.hid (B4.grown g5 B4.size (fun i hi => by injection hi with hi; omega))
    clear s5 r5 g5
    go_wp2_with fail
    go_ret2
    exact RetSSB.mk HEE.out HSS.out HB5.out
end Go.Proofs.Ytnkkgfeegaiakaa
