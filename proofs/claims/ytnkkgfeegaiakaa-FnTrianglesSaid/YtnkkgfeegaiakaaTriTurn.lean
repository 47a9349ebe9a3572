/- Contracts of TurnPolygon, the program's and the reference's: both return the turned diagonals in order, in new memory. No condition. -/
import Derived.Test.YtnkkgfeegaiakaaTriPut
import Derived.Test.YtnkkgfeegaiakaaSSMark
import Derived.Test.YtnkkgfeegaiakaaPlain27
namespace Go.Proofs.Ytnkkgfeegaiakaa
open Go.RowKit
/-- a diagonal turned -/
def trow (n k : Int) (x : List Int) : List Int := [min ((x.getD 0 0 + k) % n) ((x.getD 1 0 + k) % n), max ((x.getD 0 0 + k) % n) ((x.getD 1 0 + k) % n)]
def tnR (n : Int) (d : List (List Int)) (k : Int) : List (List Int) × Bool := if TriP n d ∧ (0 ≤ k ∧ k ≤ n - 1) then (putsG [] ltL (d.map (trow n k)), true) else ([], false)
theorem putsG_mem {f : List (List Int)} {q : List Int} (h : q ∈ putsG [] ltL f) : q ∈ f := by
  have h2 : ∀ (f o : List (List Int)), ∀ q ∈ f.foldl (putG [] ltL) o, q ∈ f ∨ q ∈ o := by
    intro f
    induction f with
    | nil => intro o q h; exact .inr h
    | cons x f ih =>
      intro o q h
      rw [List.foldl_cons] at h
      rcases ih _ q h with h | h
      · exact .inl (List.mem_cons_of_mem _ h)
      · unfold putG at h
        rcases List.mem_append.1 h with h | h
        · exact .inr (List.mem_of_mem_take h)
        · rcases List.mem_cons.1 h with h | h
          · exact .inl (by rw [h]; exact List.mem_cons_self)
          · exact .inr (List.mem_of_mem_drop h)
  rcases h2 f [] q h with h | h
  · exact h
  · cases h
theorem off_le_rows {xss : List (List Int)} {B : Nat} (h : ∀ q ∈ xss, q.length ≤ B) : off xss xss.length ≤ xss.length * B := by
  unfold off
  refine sumTo_le fun i hi => ?_
  rw [rowOf_get hi]
  exact h _ (List.getElem_mem hi)
theorem tnR_off (n : Int) (d : List (List Int)) (k : Int) : off (tnR n d k).1 (tnR n d k).1.length ≤ 1000 := by
  unfold tnR
  split
  · rename_i h
    have h1 := h.1.1
    have h2 := h.1.2.1
    have hl : (putsG [] ltL (d.map (trow n k))).length = d.length := by rw [putsG_len, List.length_map]
    have := off_le_rows (xss := putsG [] ltL (d.map (trow n k))) (B := 2) (fun q hq => by
      obtain ⟨x, _, rfl⟩ := List.mem_map.1 (putsG_mem hq)
      simp [trow])
    show off (putsG [] ltL (d.map (trow n k))) (putsG [] ltL (d.map (trow n k))).length ≤ _
    omega
  · simp [off, sumTo]
theorem put_rows {w : World} {base g : Nat} {xv : Value} {x : List Int} {Ps : List (Value × List Int)} (hr : RowsOk w base Ps) (hx : OwI w base xv x) (hap : ∀ q ∈ Ps, Apart xv q.1) (_ : g = g) : RowsOk w base (putG dP ltP Ps (xv, x)) := by
  have h1 : RowsOk w base ((xv, x) :: Ps) := ⟨fun q hq => by
    rcases List.mem_cons.1 hq with e | h
    · subst e; exact hx
    · exact hr.1 q h, List.pairwise_cons.2 ⟨hap, hr.2⟩⟩
  exact h1.perm (putG_perm dP ltP Ps (xv, x))
theorem putG_snd (Ps : List (Value × List Int)) (xv : Value) (x : List Int) : (putG dP ltP Ps (xv, x)).map (·.2) = putG [] ltL (Ps.map (·.2)) x := putG_map dP [] ltL (fun q => q.2) rfl Ps (xv, x)
theorem putsG_snd (Ps : List (Value × List Int)) : (putsG dP ltP Ps).map (·.2) = putsG [] ltL (Ps.map (·.2)) := putsG_map dP [] ltL (fun q => q.2) rfl Ps
theorem trow_two (n k c g : Int) : trow n k [c, g] = [min ((c + k) % n) ((g + k) % n), max ((c + k) % n) ((g + k) % n)] := rfl
theorem take_trow {n k : Int} {d : List (List Int)} {j : Nat} (h : j < d.length) : (d.take (j + 1)).map (trow n k) = (d.take j).map (trow n k) ++ [trow n k (rowOf d j)] := by
  rw [take_succ_get _ _ h, List.map_append, rowOf_get h]; rfl
set_option maxRecDepth 8000 in
set_option maxHeartbeats 3200000 in
theorem specTurnPolygon_any (n : Int) (v : Value) (d : List (List Int)) (k : Int) (w : World) (hv : RdSS w v d) (h64 : I64 n) (_hk : I64 k) :
    Calls Try.prog 153 #[.int .i64 n, v, .int .i64 k] w (RetSSB w (tnR n d k)) := by
  have sp0 := Spine.empty_ w w.heap.size (Nat.le_refl _)
  have hB0 : Below w.heap.size w (w.alloc (.cells #[] 38)) := (Below.refl _ _).alloc (Nat.le_refl _) _
  have hT := specIsTriangulation_any n v d (w.alloc (.cells #[] 38)) (hv.below hB0) h64
  obtain ⟨A, c0, rfl, hc, hll, _⟩ := id hv
  have HV := Lib.hid hv
  by_cases hP : TriP n d
  · rw [decide_eq_true hP] at hT
    have HT := Lib.hid hT
    have hr := hP.1
    have HO := Lib.hid (fun j hj => (hP.2.2 j hj).1)
    have hd7 : d.length ≤ 7 := by have := hP.2.1; omega
    by_cases hk : 0 ≤ k ∧ k ≤ n - 1
    · have HR := Lib.hid (show tnR n d k = (putsG [] ltL (d.map (trow n k)), true) by unfold tnR; rw [if_pos ⟨hP, hk⟩])
      obtain ⟨hk0, hk1⟩ := hk
      clear hP hT hv
      go_enter Try.func153, Try.ntmps153
      go_wp2_with (first | (go_at_call 171; refine HT.out.mono ?_; rintro e w' ⟨rfl, q0, rfl⟩) | (go_at_call 185; refine (l1In_yes _ _ _ _ (by omega) (by omega)).mono ?_; rintro e w' ⟨rfl, rfl⟩))
      have sp1 : Spine ((w.alloc (.cells #[] 38)).drewN q0) w.heap.size (.slice (some ⟨w.heap.size, 0, none⟩) 0 0) [] := sp0
      have hB1 : Below w.heap.size w ((w.alloc (.cells #[] 38)).drewN q0) := below_drewN hB0 q0
      clear sp0 hB0
      generalize (w.alloc (.cells #[] 38)).drewN q0 = w1 at sp1 hB1 ⊢
      go_loopw [8, 9] (fun x i wr => ∃ (g cap : Nat) (Ps : List (Value × List Int)), Ps.length ≤ d.length ∧ i = .int .i64 (Ps.length : Int) ∧ x = .slice (some ⟨g, 0, none⟩) Ps.length cap ∧ Spine wr w.heap.size (.slice (some ⟨g, 0, none⟩) Ps.length cap) Ps ∧ RowsOk wr w.heap.size Ps ∧ Hid (Ps.map (·.2) = putsG [] ltL ((d.take Ps.length).map (trow n k))) ∧ Hid (∀ q ∈ Ps, q.2.length = 2) ∧ Below w.heap.size w wr) (fun _ i _ => d.length - (intOf i).toNat)
      case atStart => exact ⟨w.heap.size, 0, [], by simp, rfl, rfl, sp1, RowsOk.nil_ _ _, rfl, Lib.hid (fun q hq => by cases hq), hB1⟩
      case round =>
        clear sp1 hB1
        obtain ⟨g, cap, Ps, hj, rfl, rfl, hsp, hrow, HE, H2, hB⟩ := hrel
        have hsz := hB.size
        by_cases hlt : Ps.length < d.length
        · obtain ⟨c, e, hx, hc1, hg1, _, _⟩ := diag_two (HO.out Ps.length hlt)
          obtain ⟨bl, o, b1, o1, c1, rfl, cu, hcc, d0, d1, _⟩ := (HV.out.below hB).two hlt hx
          have HTR := Lib.hid (show putsG [] ltL ((d.take (Ps.length + 1)).map (trow n k)) = putG [] ltL (putsG [] ltL ((d.take Ps.length).map (trow n k))) (trow n k [c, e]) by rw [take_trow hlt, putsG_snoc, hx])
          obtain ⟨a, ha⟩ : ∃ a, a = (c + k) % n := ⟨_, rfl⟩
          obtain ⟨b, hb⟩ : ∃ b, b = (e + k) % n := ⟨_, rfl⟩
          have ea : (c + k).tmod n = a := by rw [ha]; exact Int.tmod_eq_emod_of_nonneg (by omega)
          have eb : (e + k).tmod n = b := by rw [hb]; exact Int.tmod_eq_emod_of_nonneg (by omega)
          have htr : trow n k [c, e] = [min a b, max a b] := by rw [trow_two, ha, hb]
          rw [htr] at HTR
          have hn0 : n ≠ 0 := by omega
          obtain ⟨x0, hx0⟩ : ∃ x0, x0 = min a b := ⟨_, rfl⟩
          obtain ⟨x1, hx1⟩ : ∃ x1, x1 = max a b := ⟨_, rfl⟩
          rw [← hx0, ← hx1] at HTR
          have hown : OwI (wr.alloc (.cells #[.int .i64 x0, .int .i64 x1] 3)) w.heap.size (.slice (some ⟨wr.heap.size, 0, none⟩) 2 2) [x0, x1] := OwR.lit (e := 3) (f := Value.int .i64) wr [x0, x1] w.heap.size hsz (by simp)
          have hbX : Below wr.heap.size wr (wr.alloc (.cells #[.int .i64 x0, .int .i64 x1] 3)) := (Below.refl _ _).alloc (Nat.le_refl _) _
          have hrowX := hrow.below hbX
          have HCALL := Lib.hid (l7Put_any g cap Ps (.slice (some ⟨wr.heap.size, 0, none⟩) 2 2) [x0, x1] _ w.heap.size (hsp.below hbX) hrowX hown rfl H2.out (by omega))
          have HRN := Lib.hid (put_rows (g := 0) hrowX hown (fun q hq i h1 h2 => by
            have := ((hrow.1 q hq).lt i h2).2
            simp [Value.ownBlock] at h1
            omega) rfl)
          have HBX := Lib.hid (below_then hB hbX)
          have HL := Lib.hid (putG_len dP ltP Ps ((.slice (some ⟨wr.heap.size, 0, none⟩) 2 2 : Value), [x0, x1]))
          have HSN := Lib.hid (show (putG dP ltP Ps ((.slice (some ⟨wr.heap.size, 0, none⟩) 2 2 : Value), [x0, x1])).map (·.2) = putsG [] ltL ((d.take (Ps.length + 1)).map (trow n k)) by rw [putG_snd, HE.out, HTR])
          have H2N := Lib.hid (show ∀ q ∈ putG dP ltP Ps ((.slice (some ⟨wr.heap.size, 0, none⟩) 2 2 : Value), [x0, x1]), q.2.length = 2 from fun q hq => by
            have := (putG_perm dP ltP Ps ((.slice (some ⟨wr.heap.size, 0, none⟩) 2 2 : Value), [x0, x1])).subset hq
            rcases List.mem_cons.1 this with h | h
            · rw [h]; rfl
            · exact H2.out q h)
          clear hown hbX hrowX hsp hrow hx ha hb htr HTR HE H2
          rcases Int.lt_trichotomy a b with hab | hab | hab
          · have m1 : x0 = a := by omega
            have m2 : x1 = b := by omega
            clear hx0 hx1
            subst m1
            subst m2
            go_wp2_with fail
            refine HCALL.out.mono ?_; rintro e w2 ⟨g2, cap2, rfl, s2, b2⟩
            have HS2 := Lib.hid (s2.mono (Nat.le_trans hsz (by simp)))
            have HR2 := Lib.hid (HRN.out.below b2)
            have HB2 := Lib.hid (below_then HBX.out b2)
            clear s2 b2 HCALL HRN HBX
            generalize putG dP ltP Ps _ = R at HL HSN H2N HS2 HR2
            go_wp2_with fail
            go_roundw
            case rel => exact ⟨g2, cap2, R, by rw [HL.out]; omega, by rw [HL.out]; go_num, rfl, HS2.out, HR2.out, by rw [HL.out]; exact HSN, H2N, HB2.out⟩
            case measure => simp [intOf]; omega
          · have m1 : x0 = a := by omega
            have m2 : x1 = a := by omega
            clear hx0 hx1
            subst hab
            subst m1
            subst m2
            go_wp2_with fail
            refine HCALL.out.mono ?_; rintro e w2 ⟨g2, cap2, rfl, s2, b2⟩
            have HS2 := Lib.hid (s2.mono (Nat.le_trans hsz (by simp)))
            have HR2 := Lib.hid (HRN.out.below b2)
            have HB2 := Lib.hid (below_then HBX.out b2)
            clear s2 b2 HCALL HRN HBX
            generalize putG dP ltP Ps _ = R at HL HSN H2N HS2 HR2
            go_wp2_with fail
            go_roundw
            case rel => exact ⟨g2, cap2, R, by rw [HL.out]; omega, by rw [HL.out]; go_num, rfl, HS2.out, HR2.out, by rw [HL.out]; exact HSN, H2N, HB2.out⟩
            case measure => simp [intOf]; omega
          · have m1 : x0 = b := by omega
            have m2 : x1 = a := by omega
            clear hx0 hx1
            subst m1
            subst m2
            go_wp2_with fail
            refine HCALL.out.mono ?_; rintro e w2 ⟨g2, cap2, rfl, s2, b2⟩
            have HS2 := Lib.hid (s2.mono (Nat.le_trans hsz (by simp)))
            have HR2 := Lib.hid (HRN.out.below b2)
            have HB2 := Lib.hid (below_then HBX.out b2)
            clear s2 b2 HCALL HRN HBX
            generalize putG dP ltP Ps _ = R at HL HSN H2N HS2 HR2
            go_wp2_with fail
            go_roundw
            case rel => exact ⟨g2, cap2, R, by rw [HL.out]; omega, by rw [HL.out]; go_num, rfl, HS2.out, HR2.out, by rw [HL.out]; exact HSN, H2N, HB2.out⟩
            case measure => simp [intOf]; omega
        · have hje : Ps.length = d.length := by omega
          have HSS := Lib.hid (hsp.ss hrow)
          have HEE := Lib.hid (show tnR n d k = (Ps.map (·.2), true) by rw [HR.out, HE.out, hje, List.take_length])
          clear hsp hrow
          go_wp2_with fail
          go_ret2
          exact RetSSB.mk HEE.out HSS.out hB
    · have HR := Lib.hid (show tnR n d k = ([], false) by unfold tnR; rw [if_neg (fun q => hk q.2)])
      have HSS := Lib.hid (sp0.ss (RowsOk.nil_ _ _))
      clear hP hT hv
      go_enter Try.func153, Try.ntmps153
      go_wp2_with (first | (go_at_call 171; refine HT.out.mono ?_; rintro e w' ⟨rfl, q0, rfl⟩) | (go_at_call 185; refine (l1In_no _ _ _ _ hk).mono ?_; rintro e w' ⟨rfl, rfl⟩))
      go_ret2
      exact RetSSB.mk HR.out HSS.out (below_drewN hB0 q0)
  · rw [decide_eq_false hP] at hT
    have HT := Lib.hid hT
    have HR := Lib.hid (show tnR n d k = ([], false) by unfold tnR; rw [if_neg (fun q => hP q.1)])
    have HSS := Lib.hid (sp0.ss (RowsOk.nil_ _ _))
    clear hP hT hv
    go_enter Try.func153, Try.ntmps153
    go_wp2_with (go_at_call 171; refine HT.out.mono ?_; rintro e w' ⟨rfl, q0, rfl⟩)
    go_ret2
    exact RetSSB.mk HR.out HSS.out (below_drewN hB0 q0)
end Go.Proofs.Ytnkkgfeegaiakaa
