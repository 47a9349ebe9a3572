/- Contract of the program's TurnPolygon: the turned diagonals in order, in new memory. No condition. -/
import Derived.Test.YtnkkgfeegaiakaaTriTurn
namespace Go.Proofs.Ytnkkgfeegaiakaa
open Go.RowKit
set_option maxRecDepth 8000 in
set_option maxHeartbeats 3200000 in
theorem implTurnPolygon_any (n : Int) (v : Value) (d : List (List Int)) (k : Int) (w : World) (hv : RdSS w v d) (h64 : I64 n) (_hk : I64 k) :
    Calls Try.prog 152 #[.int .i64 n, v, .int .i64 k] w (RetSSB w (tnR n d k)) := by
  have hT := implIsTriangulation_any n v d w hv h64
  obtain ⟨A, c0, rfl, hc, hll, _⟩ := id hv
  have HV := Lib.hid hv
  by_cases hP : TriP n d
  · rw [decide_eq_true hP] at hT
    have HT := Lib.hid hT
    have hr := hP.1
    have HO := Lib.hid (fun j hj => (hP.2.2 j hj).1)
    have hd7 : d.length ≤ 7 := by have := hP.2.1; omega
    by_cases hk : 0 ≤ k ∧ k ≤ n - 1
    · have HR := Lib.hid (show tnR n d k = (putsG [] ltL (d.map (trow n k)), true) by unfold tnR; rw [if_pos ⟨hP, hk⟩])
      obtain ⟨hk0, hk1⟩ := hk
      clear hP hT hv
      go_enter Try.func152, Try.ntmps152
      go_wp2_with (first | (go_at_call 149; refine HT.out.mono ?_; rintro e w' ⟨rfl, q0, rfl⟩) | (go_at_call 178; refine (within_yes _ _ _ _ (by omega) (by omega)).mono ?_; rintro e w' ⟨rfl, rfl⟩))
      have sp1 : Spine ((w.drewN q0).alloc (.cells #[] 38)) w.heap.size (.slice (some ⟨w.heap.size, 0, none⟩) 0 0) [] := Spine.empty_ (w.drewN q0) w.heap.size (Nat.le_refl _)
      have hB1 : Below w.heap.size w ((w.drewN q0).alloc (.cells #[] 38)) := (below_draws w q0).alloc (Nat.le_refl _) _
      generalize (w.drewN q0).alloc (.cells #[] 38) = w1 at sp1 hB1 ⊢
      go_loopw [8, 28] (fun x i wr => ∃ (g cap : Nat) (Ps : List (Value × List Int)), Ps.length ≤ d.length ∧ i = .int .i64 (Ps.length : Int) ∧ x = .slice (some ⟨g, 0, none⟩) Ps.length cap ∧ Spine wr w.heap.size (.slice (some ⟨g, 0, none⟩) Ps.length cap) Ps ∧ RowsOk wr w.heap.size Ps ∧ Hid (Ps.map (·.2) = (d.take Ps.length).map (trow n k)) ∧ Below w.heap.size w wr) (fun _ i _ => d.length - (intOf i).toNat)
      case atStart => exact ⟨w.heap.size, 0, [], by simp, rfl, rfl, sp1, RowsOk.nil_ _ _, rfl, hB1⟩
      case round =>
        clear sp1 hB1
        obtain ⟨g, cap, Ps, hj, rfl, rfl, hsp, hrow, HE, hB⟩ := hrel
        have hsz := hB.size
        by_cases hlt : Ps.length < d.length
        · obtain ⟨c, e, hx, hc1, hg1, _, _⟩ := diag_two (HO.out Ps.length hlt)
          obtain ⟨bl, o, b1, o1, c1, rfl, cu, hcc, d0, d1, _⟩ := (HV.out.below hB).two hlt hx
          obtain ⟨a, ha⟩ : ∃ a, a = (c + k) % n := ⟨_, rfl⟩
          obtain ⟨b, hb⟩ : ∃ b, b = (e + k) % n := ⟨_, rfl⟩
          have ea : (c + k).tmod n = a := by rw [ha]; exact Int.tmod_eq_emod_of_nonneg (by omega)
          have eb : (e + k).tmod n = b := by rw [hb]; exact Int.tmod_eq_emod_of_nonneg (by omega)
          have wa : IntKind.i64.wrap (c + k) = c + k := IntWalk.i64_in _ (by omega)
          have wb : IntKind.i64.wrap (e + k) = e + k := IntWalk.i64_in _ (by omega)
          have a0 : 0 ≤ a := by rw [ha]; exact Int.emod_nonneg _ (by omega)
          have a1 : a < n := by rw [ha]; exact Int.emod_lt_of_pos _ (by omega)
          have b00 : 0 ≤ b := by rw [hb]; exact Int.emod_nonneg _ (by omega)
          have b11 : b < n := by rw [hb]; exact Int.emod_lt_of_pos _ (by omega)
          have va : IntKind.i64.wrap a = a := IntWalk.i64_in _ (by omega)
          have vb : IntKind.i64.wrap b = b := IntWalk.i64_in _ (by omega)
          have htr : trow n k [c, e] = [min a b, max a b] := by rw [trow_two, ha, hb]
          have hn0 : n ≠ 0 := by omega
          have hnb : (n == 0) = false := beq_eq_false_iff_ne.2 hn0
          have HXX := Lib.hid hx
          have HSP := Lib.hid hsp
          have HRW := Lib.hid hrow
          have HB := Lib.hid hB
          clear hsp hrow hB hx ha hb
          rcases Int.lt_trichotomy a b with hab | hab | hab
          · have HTR := Lib.hid (show trow n k [c, e] = [a, b] by rw [htr, Int.min_eq_left (by omega), Int.max_eq_right (by omega)])
            clear htr
            go_wp2_with fail
            go_quiet (fail)
            have hsq : Spine ((wr.drewN nq).alloc (.cells #[.int .i64 a, .int .i64 b] 3)) w.heap.size (.slice (some ⟨g, 0, none⟩) Ps.length cap) Ps := (show Spine (wr.drewN nq) w.heap.size _ Ps from HSP.out).below ((Below.refl _ _).alloc (Nat.le_refl _) _)
            have hrq : RowsOk ((wr.drewN nq).alloc (.cells #[.int .i64 a, .int .i64 b] 3)) w.heap.size Ps := (show RowsOk (wr.drewN nq) w.heap.size Ps from HRW.out).below ((Below.refl _ _).alloc (Nat.le_refl _) _)
            have hown : OwI ((wr.drewN nq).alloc (.cells #[.int .i64 a, .int .i64 b] 3)) w.heap.size (.slice (some ⟨wr.heap.size, 0, none⟩) 2 2) [a, b] := OwR.lit (e := 3) (f := Value.int .i64) (wr.drewN nq) [a, b] w.heap.size hsz (by simp)
            have hbX : Below w.heap.size w ((wr.drewN nq).alloc (.cells #[.int .i64 a, .int .i64 b] 3)) := (below_drewN HB.out nq).alloc hsz _
            go_wp2_with (at_builtin; refine wpList_appSp _ rfl _ _ rfl w.heap.size _ Ps rfl hsq (.slice (some ⟨wr.heap.size, 0, none⟩) 2 2, [a, b]) rfl rfl (by simp) (by omega) hbX.size ?_)
            intro v2 w2 s2 g2 a2
            have B2 : Below w.heap.size w w2 := hbX.grown g2 hbX.size (fun g hg => (hsq.lt g hg).1)
            have HR2 := Lib.hid ((hrq.append_ (RowsOk.one_ (q := (.slice (some ⟨wr.heap.size, 0, none⟩) 2 2, [a, b])) hown) (fun q hq y hy i h1 h2 => by
              obtain rfl : y = (.slice (some ⟨wr.heap.size, 0, none⟩) 2 2, [a, b]) := by simpa using hy
              have := ((HRW.out.1 q hq).lt i h1).2
              simp [Value.ownBlock] at h2
              omega)).spine hsq g2)
            have HS2 := Lib.hid s2
            have HSN := Lib.hid (show (Ps ++ [((.slice (some ⟨wr.heap.size, 0, none⟩) 2 2 : Value), [a, b])]).map (·.2) = (d.take (Ps.length + 1)).map (trow n k) by rw [List.map_append, HE.out, take_trow hlt, HXX.out, HTR.out]; rfl)
            have HL2 := Lib.hid (show (Ps ++ [((.slice (some ⟨wr.heap.size, 0, none⟩) 2 2 : Value), [a, b])]).length = Ps.length + 1 by simp)
            obtain ⟨_, gg, cc, rfl⟩ := a2
            clear s2 g2 hsq hrq hown hbX
            generalize Ps ++ [((.slice (some ⟨wr.heap.size, 0, none⟩) 2 2 : Value), [a, b])] = R at HR2 HS2 HSN HL2
            go_wp2_with fail
            go_roundw
            case rel => exact ⟨gg, cc, R, by rw [HL2.out]; omega, by rw [HL2.out]; go_num, by rw [HL2.out], by rw [HL2.out]; exact HS2.out, HR2.out, by rw [HL2.out]; exact HSN, B2⟩
            case measure => simp [intOf]; omega
          · have HTR := Lib.hid (show trow n k [c, e] = [a, a] by rw [htr, ← hab, Int.min_eq_left (by omega), Int.max_eq_right (by omega)])
            clear htr
            subst hab
            go_wp2_with fail
            go_quiet (fail)
            have hsq : Spine ((wr.drewN nq).alloc (.cells #[.int .i64 a, .int .i64 a] 3)) w.heap.size (.slice (some ⟨g, 0, none⟩) Ps.length cap) Ps := (show Spine (wr.drewN nq) w.heap.size _ Ps from HSP.out).below ((Below.refl _ _).alloc (Nat.le_refl _) _)
            have hrq : RowsOk ((wr.drewN nq).alloc (.cells #[.int .i64 a, .int .i64 a] 3)) w.heap.size Ps := (show RowsOk (wr.drewN nq) w.heap.size Ps from HRW.out).below ((Below.refl _ _).alloc (Nat.le_refl _) _)
            have hown : OwI ((wr.drewN nq).alloc (.cells #[.int .i64 a, .int .i64 a] 3)) w.heap.size (.slice (some ⟨wr.heap.size, 0, none⟩) 2 2) [a, a] := OwR.lit (e := 3) (f := Value.int .i64) (wr.drewN nq) [a, a] w.heap.size hsz (by simp)
            have hbX : Below w.heap.size w ((wr.drewN nq).alloc (.cells #[.int .i64 a, .int .i64 a] 3)) := (below_drewN HB.out nq).alloc hsz _
            go_wp2_with (at_builtin; refine wpList_appSp _ rfl _ _ rfl w.heap.size _ Ps rfl hsq (.slice (some ⟨wr.heap.size, 0, none⟩) 2 2, [a, a]) rfl rfl (by simp) (by omega) hbX.size ?_)
            intro v2 w2 s2 g2 a2
            have B2 : Below w.heap.size w w2 := hbX.grown g2 hbX.size (fun g hg => (hsq.lt g hg).1)
            have HR2 := Lib.hid ((hrq.append_ (RowsOk.one_ (q := (.slice (some ⟨wr.heap.size, 0, none⟩) 2 2, [a, a])) hown) (fun q hq y hy i h1 h2 => by
              obtain rfl : y = (.slice (some ⟨wr.heap.size, 0, none⟩) 2 2, [a, a]) := by simpa using hy
              have := ((HRW.out.1 q hq).lt i h1).2
              simp [Value.ownBlock] at h2
              omega)).spine hsq g2)
            have HS2 := Lib.hid s2
            have HSN := Lib.hid (show (Ps ++ [((.slice (some ⟨wr.heap.size, 0, none⟩) 2 2 : Value), [a, a])]).map (·.2) = (d.take (Ps.length + 1)).map (trow n k) by rw [List.map_append, HE.out, take_trow hlt, HXX.out, HTR.out]; rfl)
            have HL2 := Lib.hid (show (Ps ++ [((.slice (some ⟨wr.heap.size, 0, none⟩) 2 2 : Value), [a, a])]).length = Ps.length + 1 by simp)
            obtain ⟨_, gg, cc, rfl⟩ := a2
            clear s2 g2 hsq hrq hown hbX
            generalize Ps ++ [((.slice (some ⟨wr.heap.size, 0, none⟩) 2 2 : Value), [a, a])] = R at HR2 HS2 HSN HL2
            go_wp2_with fail
            go_roundw
            case rel => exact ⟨gg, cc, R, by rw [HL2.out]; omega, by rw [HL2.out]; go_num, by rw [HL2.out], by rw [HL2.out]; exact HS2.out, HR2.out, by rw [HL2.out]; exact HSN, B2⟩
            case measure => simp [intOf]; omega
          · have HTR := Lib.hid (show trow n k [c, e] = [b, a] by rw [htr, Int.min_eq_right (by omega), Int.max_eq_left (by omega)])
            clear htr
            go_wp2_with fail
            go_quiet (fail)
            have hsq : Spine ((wr.drewN nq).alloc (.cells #[.int .i64 b, .int .i64 a] 3)) w.heap.size (.slice (some ⟨g, 0, none⟩) Ps.length cap) Ps := (show Spine (wr.drewN nq) w.heap.size _ Ps from HSP.out).below ((Below.refl _ _).alloc (Nat.le_refl _) _)
            have hrq : RowsOk ((wr.drewN nq).alloc (.cells #[.int .i64 b, .int .i64 a] 3)) w.heap.size Ps := (show RowsOk (wr.drewN nq) w.heap.size Ps from HRW.out).below ((Below.refl _ _).alloc (Nat.le_refl _) _)
            have hown : OwI ((wr.drewN nq).alloc (.cells #[.int .i64 b, .int .i64 a] 3)) w.heap.size (.slice (some ⟨wr.heap.size, 0, none⟩) 2 2) [b, a] := OwR.lit (e := 3) (f := Value.int .i64) (wr.drewN nq) [b, a] w.heap.size hsz (by simp)
            have hbX : Below w.heap.size w ((wr.drewN nq).alloc (.cells #[.int .i64 b, .int .i64 a] 3)) := (below_drewN HB.out nq).alloc hsz _
            go_wp2_with (at_builtin; refine wpList_appSp _ rfl _ _ rfl w.heap.size _ Ps rfl hsq (.slice (some ⟨wr.heap.size, 0, none⟩) 2 2, [b, a]) rfl rfl (by simp) (by omega) hbX.size ?_)
            intro v2 w2 s2 g2 a2
            have B2 : Below w.heap.size w w2 := hbX.grown g2 hbX.size (fun g hg => (hsq.lt g hg).1)
            have HR2 := Lib.hid ((hrq.append_ (RowsOk.one_ (q := (.slice (some ⟨wr.heap.size, 0, none⟩) 2 2, [b, a])) hown) (fun q hq y hy i h1 h2 => by
              obtain rfl : y = (.slice (some ⟨wr.heap.size, 0, none⟩) 2 2, [b, a]) := by simpa using hy
              have := ((HRW.out.1 q hq).lt i h1).2
              simp [Value.ownBlock] at h2
              omega)).spine hsq g2)
            have HS2 := Lib.hid s2
            have HSN := Lib.hid (show (Ps ++ [((.slice (some ⟨wr.heap.size, 0, none⟩) 2 2 : Value), [b, a])]).map (·.2) = (d.take (Ps.length + 1)).map (trow n k) by rw [List.map_append, HE.out, take_trow hlt, HXX.out, HTR.out]; rfl)
            have HL2 := Lib.hid (show (Ps ++ [((.slice (some ⟨wr.heap.size, 0, none⟩) 2 2 : Value), [b, a])]).length = Ps.length + 1 by simp)
            obtain ⟨_, gg, cc, rfl⟩ := a2
            clear s2 g2 hsq hrq hown hbX
            generalize Ps ++ [((.slice (some ⟨wr.heap.size, 0, none⟩) 2 2 : Value), [b, a])] = R at HR2 HS2 HSN HL2
            go_wp2_with fail
            go_roundw
            case rel => exact ⟨gg, cc, R, by rw [HL2.out]; omega, by rw [HL2.out]; go_num, by rw [HL2.out], by rw [HL2.out]; exact HS2.out, HR2.out, by rw [HL2.out]; exact HSN, B2⟩
            case measure => simp [intOf]; omega
        · have hje : Ps.length = d.length := by omega
          have HEE := Lib.hid (show tnR n d k = ((srtG dP ltP Ps Ps.length).map (·.2), true) by rw [HR.out, srtG_all, putsG_snd, HE.out, hje, List.take_length])
          have HSORT := Lib.hid (sortRows_any g cap Ps wr w.heap.size hsp hrow (by omega))
          have HG := Lib.hid (hsp.lt g rfl).1
          clear hsp hrow hje
          go_wp2_with fail
          refine HSORT.out.mono ?_; rintro e w2 ⟨rfl, s2, r2, g2⟩
          have HSS := Lib.hid (s2.ss r2)
          have HB2 := Lib.hid (hB.grown g2 hsz (fun i hi => by injection hi with hi; have := HG.out; omega))
          clear s2 r2 g2 hB
          go_wp2_with fail
          go_ret2
          exact RetSSB.mk HEE.out HSS.out HB2.out
    · have HR := Lib.hid (show tnR n d k = ([], false) by unfold tnR; rw [if_neg (fun q => hk q.2)])
      clear hP hT hv
      go_enter Try.func152, Try.ntmps152
      go_wp2_with (first | (go_at_call 149; refine HT.out.mono ?_; rintro e w' ⟨rfl, q0, rfl⟩) | (go_at_call 178; refine (within_no _ _ _ _ hk).mono ?_; rintro e w' ⟨rfl, rfl⟩))
      go_ret2
      exact RetSSB.mk HR.out ((Spine.empty_ (w.drewN q0) w.heap.size (Nat.le_refl _)).ss (RowsOk.nil_ _ _)) ((below_draws w q0).alloc (Nat.le_refl _) _)
  · rw [decide_eq_false hP] at hT
    have HT := Lib.hid hT
    have HR := Lib.hid (show tnR n d k = ([], false) by unfold tnR; rw [if_neg (fun q => hP q.1)])
    clear hP hT hv
    go_enter Try.func152, Try.ntmps152
    go_wp2_with (go_at_call 149; refine HT.out.mono ?_; rintro e w' ⟨rfl, q0, rfl⟩)
    go_ret2
    exact RetSSB.mk HR.out ((Spine.empty_ (w.drewN q0) w.heap.size (Nat.le_refl _)).ss (RowsOk.nil_ _ _)) ((below_draws w q0).alloc (Nat.le_refl _) _)
end Go.Proofs.Ytnkkgfeegaiakaa
