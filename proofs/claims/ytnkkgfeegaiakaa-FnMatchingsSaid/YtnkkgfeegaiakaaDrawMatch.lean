/- Contracts of the draws of matchings. No condition. -/
import Derived.Test.YtnkkgfeegaiakaaDrawBase
import Derived.Test.YtnkkgfeegaiakaaMatchOf
import Derived.Test.YtnkkgfeegaiakaaParkSort
import Derived.Test.YtnkkgfeegaiakaaPlain31
namespace Go.Proofs.Ytnkkgfeegaiakaa
open Go.RowKit
def sliceLen : Value → Nat
  | .slice _ n _ => n
  | _ => 0
theorem sliceLen_is (A : Option Addr) (n c : Nat) : sliceLen (.slice A n c) = n := rfl
def FewS (m : List Int) : Prop := m.length ≤ 8 ∨ ∃ l, DyckP l ∧ l.length ≤ 12 ∧ m = prt l
theorem FewS.few {m : List Int} (h : FewS m) : Few m := h.imp id fun h _ => h
theorem FewS.path {l : List UInt8} (hl : l.length ≤ 12) : FewS (mofR l).1 := by
  by_cases hd : DyckP l
  · exact .inr ⟨l, hd, hl, by unfold mofR; rw [if_pos hd]⟩
  · left; unfold mofR; rw [if_neg hd]; simp
structure FewT (m : List Int) : Prop where
  few : Few m
theorem FewS.set {m : List Int} (h : FewS m) {i : Nat} (hi : i < m.length) (x : Int) : FewT (m.set i x) := by
  rcases h with h | ⟨l, hd, hl, rfl⟩
  · exact ⟨.inl (by rw [List.length_set]; exact h)⟩
  · have h1 := (path_match (.inl (by omega)) hd).2.1
    have e : (mofR l).1 = prt l := by unfold mofR; rw [if_pos hd]
    rw [e] at h1
    have hm : MatchP (prt l) := by
      unfold crossV at h1
      by_cases q : MatchP (prt l)
      · exact q
      · rw [if_neg q] at h1; omega
    exact ⟨.inr fun hM => ⟨l, hd, hl, one_turned hm hi hM⟩⟩
theorem FewS.le {m : List Int} (h : FewS m) : m.length ≤ 12 := by
  rcases h with h | ⟨l, hd, hl, rfl⟩
  · omega
  · rw [prt_len hd]; exact hl
set_option maxRecDepth 8000 in
set_option maxHeartbeats 16000000 in
theorem l9Any_any (cb : Nat) (bs : List UInt8) (w : World) (hc : CurAt w cb bs) : Calls Try.prog 212 #[.pointer (some ⟨cb, 0, none⟩)] w (RetDI w cb bs fun xs => Few xs ∧ xs.length ≤ 12) := by
  have hcb := hc.lt
  go_enter Try.func212, Try.ntmps212
  go_wp2_with fail
  refine (l2Path_any cb bs w hc).mono ?_; rintro e w1 ⟨s, rfl, hs, c0, g0⟩
  go_wp2_with fail
  refine (specMatchingOf_any s w1 (by omega)).mono ?_; rintro e w1' ⟨r, rfl, o0, b0⟩
  have hF : FewS (mofR (L s)).1 := FewS.path (by rw [L_len]; exact hs)
  have o1 := o0.mono g0.size
  have c1 := c0.below b0
  have G1 := grown_trans_row g0 (grown_below (cb := cb) b0)
  clear o0 c0 g0 b0
  generalize (mofR (L s)).1 = xs at *
  generalize (mofR (L s)).2 = zz at *
  have hl := hF.le
  go_wp2_with fail
  refine (l1Once_any cb 3 bs _ c1 (by omega) (by omega)).mono ?_; rintro e w2 ⟨z, rfl, c2, g2⟩
  have o2 := o1.cur g2 hcb
  have G2 := grown_trans_row G1 g2
  clear o1 c1 G1 g2 hc
  cases z
  · skip
    by_cases hp : 0 < xs.length
    · have hpi : (0 : Int) < (xs.length : Int) := by omega
      obtain ⟨g, cap, rfl, hgb⟩ := o2.shapeP hp
      have HO := Lib.hid (l1Once_any cb 12 bs _ c2 (by omega) (by omega))
      go_wp2_with (go_at_call 237; refine HO.out.mono ?_; rintro e w5 ⟨z5, rfl, c5, g5⟩; have o5 := o2.cur g5 hcb; have G5 := grown_trans_row G2 g5)
      · clear HO
        go_wp2_with (first
          | (go_at_call 188; refine (l1Below_any cb xs.length bs _ c5 hp (by omega)).mono ?_; rintro e w6 ⟨x6, rfl, hx6, c6, g6⟩; have o6 := o5.cur g6 hcb; have G6 := grown_trans_row G5 g6; have hxi : (x6 : Int) < (xs.length : Int) := (by omega); have c7 := c6.grown (row := none) (World.grownBy_alloc w6 (.cells #[.int .i64 (-1), .int .i64 0, .int .i64 1, .int .i64 9223372036854775807] 3) none) (fun r e => by cases e); have o7 := o6.below ((Below.refl _ _).alloc (Nat.le_refl _) (.cells #[.int .i64 (-1), .int .i64 0, .int .i64 1, .int .i64 9223372036854775807] 3)); have G7 := grown_trans_row G6 (grown_alloc w6 (.cells #[.int .i64 (-1), .int .i64 0, .int .i64 1, .int .i64 9223372036854775807] 3) _); have hP : RdI (w6.alloc (.cells #[.int .i64 (-1), .int .i64 0, .int .i64 1, .int .i64 9223372036854775807] 3)) (.slice (some ⟨w6.heap.size, 0, none⟩) 4 4) [-1, 0, 1, 9223372036854775807] := OwI.rd (OwR.lit (e := 3) (f := Value.int .i64) w6 [-1, 0, 1, 9223372036854775807] w6.heap.size (Nat.le_refl _) (by simp)); have hPne : (Value.slice (some ⟨w6.heap.size, 0, none⟩) 4 4).ownBlock ≠ some cb := (by have := c6.lt; simp [Value.ownBlock]; omega))
          | (go_at_call 238; refine (l1PickInt_any cb bs _ c7 _ [-1, 0, 1, 9223372036854775807] hP hPne (by simp) (by simp)).mono ?_; rintro e w8 ⟨y, hy, rfl, c8, g8⟩; have o8 := o7.cur g8 hcb; have G8 := grown_trans_row G7 g8; have q2 := o8.cellAt x6 hx6; have q3 := o8.frozenAt x6))
        go_ret
        exact ⟨_, _, rfl, (o8.stored x6 y).1, ⟨(hF.set hx6 y).few, by simpa using hl⟩, c8.other (base := w.heap.size) (v := .slice (some ⟨g, 0, none⟩) xs.length cap) (o8.stored x6 y).2 (fun r e => by have e : g = r := Option.some.inj e; omega) hcb, grown_new (base := w.heap.size) (v := .slice (some ⟨g, 0, none⟩) xs.length cap) G8 (o8.stored x6 y).2 (fun r e => by have e : g = r := Option.some.inj e; omega) (Nat.le_refl _)⟩
      · clear HO
        go_ret
        exact ⟨_, _, rfl, o5, ⟨hF.few, hl⟩, c5, G5⟩
    · have hpi : ¬ (0 : Int) < (xs.length : Int) := by omega
      have HOW := Lib.hid o2
      obtain ⟨A0, n0, rfl, _⟩ := o2.rd
      go_wp2_with fail
      go_ret
      exact ⟨_, _, rfl, HOW.out, ⟨hF.few, hl⟩, c2, G2⟩
  · clear o2 hl hF
    go_wp2_with fail
    refine (l1Below_any cb 5 bs _ c2 (by omega) (by omega)).mono ?_; rintro e w3 ⟨n, rfl, hn, c3, g3⟩
    have G3 := grown_trans_row G2 g3
    have ew : IntKind.i64.wrap (2 * (n : Int)) = 2 * (n : Int) := IntWalk.i64_in _ (by omega)
    go_wp2_with (at_make; refine wpList_makeI _ rfl _ _ rfl _ _ _ _ (2 * n) rfl rfl (by go_num) (by go_num) (by omega) ?_)
    intro w4 o4 b4
    have c4 := c3.below b4
    have G4 := grown_trans_row G3 (grown_below b4)
    have o4 := o4.mono G3.size
    have e2 : 2 * (n : Int) = ((2 * n : Nat) : Int) := by omega
    have h8 : 2 * n ≤ 8 := by omega
    clear ew hn c3 G3 g3 b4 c2 G2
    obtain ⟨N, hN⟩ : ∃ N : Nat, N = 2 * n := ⟨_, rfl⟩
    rw [← hN] at e2 h8 o4 ⊢
    rw [e2]
    clear e2 hN
    obtain ⟨gm, hgm⟩ : ∃ gm, gm = w3.heap.size := ⟨_, rfl⟩
    rw [← hgm] at o4 ⊢
    clear hgm
    have hgl := (o4.lt gm rfl).2
    have own5 := OwI.empty_ w4 w.heap.size G4.size
    have Bx : Below w4.heap.size w4 (w4.alloc (.cells #[] 3)) := (Below.refl _ _).alloc (Nat.le_refl _) _
    have o5 := o4.below Bx
    have c5 := c4.below Bx
    have G5 := grown_trans_row G4 (grown_below Bx)
    have ap5 : Apart (.slice (some ⟨w4.heap.size, 0, none⟩) 0 0) (.slice (some ⟨gm, 0, none⟩) N N) := fun g h1 h2 => by simp [Value.ownBlock] at h1 h2; omega
    clear o4 c4 G4 Bx
    go_wp2_with fail
    generalize w4.alloc (.cells #[] 3) = w5 at own5 o5 c5 G5 ⊢
    go_loopw [6, 7] (fun v i wr => ∃ fr : List Int, i = .int .i64 (fr.length : Int) ∧ fr.length ≤ N ∧ (∀ x ∈ fr, 0 ≤ x ∧ x < (N : Int)) ∧ OwI wr w.heap.size v fr ∧ OwI wr w.heap.size (.slice (some ⟨gm, 0, none⟩) N N) (List.replicate N 0) ∧ Apart v (.slice (some ⟨gm, 0, none⟩) N N) ∧ (∃ A c, v = .slice A fr.length c) ∧ CurAt wr cb bs ∧ w.grownBy wr (some cb)) (fun _ i _ => N - (intOf i).toNat)
    case atStart => exact ⟨[], rfl, by simp, by simp, own5, o5, ap5, ⟨_, _, rfl⟩, c5, G5⟩
    case round =>
      clear own5 o5 ap5 c5 G5 hgl
      obtain ⟨fr, rfl, hfN, hin, hown, hm, hap, ⟨A0, n0, rfl⟩, hcu, hg⟩ := hrel
      by_cases hk : fr.length < N
      · have hki : (fr.length : Int) < (N : Int) := by omega
        have hln : fr.length < 1099511627776 := by omega
        have hsz : w.heap.size ≤ wr.heap.size := hg.size
        have HIN := Lib.hid hin
        clear hin
        go_wp2_with (at_builtin; refine wpList_appI _ rfl _ _ rfl w.heap.size _ fr rfl hown _ rfl rfl hln hsz ?_)
        intro v7 w7 o7 g7 a7
        have c7 := hcu.other (base := w.heap.size) g7 (fun r e => (hown.lt r e).1) hcb
        have G7 := grown_new (base := w.heap.size) hg g7 (fun r e => (hown.lt r e).1) (Nat.le_refl _)
        obtain ⟨m7, p7⟩ := OwR.after_app (OwI_is.1 hm) hap g7 a7
        have m7 : OwI w7 w.heap.size (.slice (some ⟨gm, 0, none⟩) N N) (List.replicate N 0) := m7
        obtain ⟨_, g8, cap8, rfl⟩ := a7
        clear hown hg hcu hm hap g7
        go_wp2_with fail
        go_roundw
        case rel => exact ⟨fr ++ [(fr.length : Int)], by simp, by simp; omega, fun x hx => by
          rcases List.mem_append.1 hx with hx | hx
          · exact HIN.out x hx
          · rw [List.mem_singleton] at hx; omega, o7, m7, p7, ⟨_, _, by simp; exact ⟨rfl, rfl⟩⟩, c7, G7⟩
        case measure => simp [intOf]; omega
      · have hki : ¬ (fr.length : Int) < (N : Int) := by omega
        have HIN := Lib.hid hin
        clear hin
        go_wp2_with fail
        go_loopw [6] (fun v wr => ∃ (fr ms : List Int), ms.length = N ∧ fr.length ≤ N ∧ Hid (∀ x ∈ fr, 0 ≤ x ∧ x < (N : Int)) ∧ OwI wr w.heap.size v fr ∧ OwI wr w.heap.size (.slice (some ⟨gm, 0, none⟩) N N) ms ∧ Apart v (.slice (some ⟨gm, 0, none⟩) N N) ∧ (∃ A c, v = .slice A fr.length c) ∧ CurAt wr cb bs ∧ w.grownBy wr (some cb)) (fun v _ => sliceLen v)
        case atStart => exact ⟨fr, List.replicate N 0, by simp, hfN, HIN.out, hown, hm, hap, ⟨_, _, rfl⟩, hcu, hg⟩
        case round =>
          clear hown hm hap hcu hg HIN hk hki hfN
          obtain ⟨fr, ms, hms, hfN, HIN, hown, hm, hap, ⟨A0, n0, rfl⟩, hcu, hg⟩ := hrel
          by_cases h1 : 1 < fr.length
          · have h1i : (1 : Int) < (fr.length : Int) := by omega
            obtain ⟨g, cap, e, hgb⟩ := hown.shapeP (by omega)
            injection e with e1 e2 e3
            subst A0
            subst n0
            clear e2
            have hcap : fr.length ≤ cap := by
              obtain ⟨_, _, e, h1, _⟩ := hown.rd
              injection e with e1 e2 e3
              omega
            have HB := Lib.hid (l1Below_any cb (fr.length - 1) bs wr hcu (by omega) (by omega))
            rw [show ((fr.length - 1 : Nat) : Int) = (fr.length : Int) - 1 by omega] at HB
            have ew : IntKind.i64.wrap ((fr.length : Int) - 1) = (fr.length : Int) - 1 := IntWalk.i64_in _ (by omega)
            go_wp2_with fail
            refine HB.out.mono ?_; rintro e w6 ⟨x, rfl, hx, c6, g6⟩
            have own6 := hown.cur g6 hcb
            have m6 := OwI.cur hm g6 hcb
            have C6 := Lib.hid c6
            have G6 := Lib.hid (grown_trans_row hg g6)
            clear hown hm hcu hg c6 g6 HB ew
            obtain ⟨K, hK⟩ : ∃ K : Nat, K = x + 1 := ⟨_, rfl⟩
            have hKi : 1 + (x : Int) = (K : Int) := by omega
            have hK1 : 1 ≤ K := by omega
            have hKl : K < fr.length := by omega
            clear hK hx
            have hKli : (K : Int) < (fr.length : Int) := by omega
            have hf0 : 0 < fr.length := by omega
            have c0 := own6.cellAt 0 hf0
            have cK := own6.cellAt K hKl
            obtain ⟨p0, hp0, hp0N⟩ : ∃ p : Nat, fr[0] = (p : Int) ∧ p < N := ⟨fr[0].toNat, by have := HIN.out _ (List.getElem_mem hf0); omega, by have := HIN.out _ (List.getElem_mem hf0); omega⟩
            obtain ⟨pK, hpK, hpKN⟩ : ∃ p : Nat, fr[K] = (p : Int) ∧ p < N := ⟨fr[K].toNat, by have := HIN.out _ (List.getElem_mem hKl); omega, by have := HIN.out _ (List.getElem_mem hKl); omega⟩
            rw [hp0] at c0
            rw [hpK] at cK
            clear hp0 hpK
            have hp0i : (p0 : Int) < (N : Int) := by omega
            have hpKi : (pK : Int) < (N : Int) := by omega
            have q1 := m6.cellAt p0 (by omega)
            have q2 := m6.frozenAt p0
            have HS1 := Lib.hid (m6.stored p0 (pK : Int))
            have hne : (Value.slice (some ⟨g, 0, none⟩) fr.length cap).ownBlock ≠ some gm := fun e => hap gm e rfl
            have own7 := own6.grown HS1.out.2 (.inr hne)
            have d0 := own7.cellAt 0 hf0
            have dK := own7.cellAt K hKl
            have ed0 : fr[0] = (p0 : Int) := by have := own6.cellAt 0 hf0; rw [c0] at this; injection this with this; injection this with _ this; exact this.symm
            have edK : fr[K] = (pK : Int) := by have := own6.cellAt K hKl; rw [cK] at this; injection this with this; injection this with _ this; exact this.symm
            rw [ed0] at d0
            rw [edK] at dK
            clear ed0 edK
            have q3 := HS1.out.1.cellAt pK (by rw [List.length_set]; omega)
            have q4 := HS1.out.1.frozenAt pK
            have HS2 := Lib.hid (HS1.out.1.stored pK (p0 : Int))
            have HO8 := Lib.hid (own7.grown HS2.out.2 (.inr hne))
            have HMS := Lib.hid (show ((ms.set p0 (pK : Int)).set pK (p0 : Int)).length = N by rw [List.length_set, List.length_set]; exact hms)
            have G7 := Lib.hid (grown_new (base := w.heap.size) (v := .slice (some ⟨gm, 0, none⟩) N N) (grown_new (base := w.heap.size) (v := .slice (some ⟨gm, 0, none⟩) N N) G6.out HS1.out.2 (fun r e => by have e : gm = r := Option.some.inj e; have := (m6.lt gm rfl).1; omega) (Nat.le_refl _)) HS2.out.2 (fun r e => by have e : gm = r := Option.some.inj e; have := (m6.lt gm rfl).1; omega) (Nat.le_refl _))
            have C7 := Lib.hid ((C6.out.other (base := w.heap.size) (v := .slice (some ⟨gm, 0, none⟩) N N) HS1.out.2 (fun r e => by have e : gm = r := Option.some.inj e; have := (m6.lt gm rfl).1; omega) hcb).other (base := w.heap.size) (v := .slice (some ⟨gm, 0, none⟩) N N) HS2.out.2 (fun r e => by have e : gm = r := Option.some.inj e; have := (m6.lt gm rfl).1; omega) hcb)
            clear own6 own7 m6 C6 G6
            go_wp2_with fail
            go_region
            all_goals (
              go_wp2_with fail
              go_region)
            all_goals (
              generalize hwd : (w6.setCell ⟨gm, p0, none⟩ (.int .i64 (pK : Int))).setCell ⟨gm, pK, none⟩ (.int .i64 (p0 : Int)) = W8 at *
              have hownD := HO8.out.drewN 2
              have MD := Lib.hid (OwI.drewN HS2.out.1 2)
              have C6 := Lib.hid (show CurAt (W8.drewN 2) cb bs from C7.out)
              have G6 := Lib.hid (grown_trans_row G7.out (grown_draws W8 2 _))
              have hWD : W8.drew.drew = W8.drewN 2 := rfl
              try rw [hWD]
              generalize W8.drewN 2 = wd at *
              clear hWD hwd HS1 HS2 HO8 C7 G7 q1 q2 q3 q4 c0 cK d0 dK
              have hbs : w.heap.size ≤ wd.heap.size := G6.out.size
              obtain ⟨T, hT⟩ : ∃ T, T = (fr.take K).drop 1 := ⟨_, rfl⟩
              obtain ⟨D, hD⟩ : ∃ D, D = fr.drop (K + 1) := ⟨_, rfl⟩
              have hTl : T.length = K - 1 := by rw [hT, List.length_drop, List.length_take]; omega
              have hDl : D.length = fr.length - (K + 1) := by rw [hD, List.length_drop]
              have HIN2 : Hid (∀ x ∈ T ++ D, 0 ≤ x ∧ x < (N : Int)) := Lib.hid fun x hx => by
                rcases List.mem_append.1 hx with hx | hx
                · rw [hT] at hx; exact HIN.out x (List.mem_of_mem_take (List.mem_of_mem_drop hx))
                · rw [hD] at hx; exact HIN.out x (List.mem_of_mem_drop hx)
              have hrdD := hownD.rd
              have hrdT : RdI wd (.slice (some ⟨g, 1, none⟩) T.length (cap - 1)) T := by
                have h := (hrdD.take_ K (by omega)).drop_ 1 (by rw [List.length_take]; omega)
                rw [List.length_take, show min K fr.length - 1 = K - 1 by omega] at h
                rw [hTl, hT]; exact h
              have HRX : Hid (K + 1 < cap → RdI wd (.slice (some ⟨g, K + 1, none⟩) D.length (cap - (K + 1))) D) := Lib.hid fun _ => by
                have := hrdD.drop_ (K + 1) (by omega)
                rw [Nat.zero_add, ← hD, ← hDl] at this
                exact this
              have B1 : Below wd.heap.size wd (wd.drew.alloc (.cells #[] 3)) := (below_draws wd 1).alloc (Nat.le_refl _) _
              have own1 : OwI (wd.drew.alloc (.cells #[] 3)) w.heap.size (.slice (some ⟨wd.heap.size, 0, none⟩) 0 0) [] := OwI.empty_ wd.drew w.heap.size hbs
              have hl0 : ([] : List Int).length + T.length ≤ 1099511627776 := by rw [hTl]; simp; omega
              have hl4 : T.length + D.length ≤ 1099511627776 := by rw [hTl, hDl]; omega
              have t1 := hrdT.below B1
              have b1 : w.heap.size ≤ (wd.drew.alloc (.cells #[] 3)).heap.size := Nat.le_trans hbs B1.size
              have HDD := Lib.hid hDl
              have HLen := Lib.hid (show (T ++ D).length = fr.length - 2 by rw [List.length_append, hTl, hDl]; omega)
              have ewK : IntKind.i64.wrap ((K : Int) + 1) = (K : Int) + 1 := IntWalk.i64_in _ (by omega)
              have eKn : ((K : Int) + 1).toNat = K + 1 := by omega
              have eK0 : (0 : Int) ≤ (K : Int) + 1 := by omega
              have eK1 : (K : Int) + 1 ≤ (fr.length : Int) := by omega
              have hKc : K ≤ cap := by omega
              have h1c : 1 < cap := by omega
              have hK1i : (1 : Int) ≤ (K : Int) := by omega
              have hc1 : ¬ cap = 1 := by omega
              clear hT hD hrdD hownD hrdT hDl hap hne
              rcases Nat.lt_or_ge (K + 1) cap with hPlt | hPge
              · have HDX := Lib.hid (HRX.out hPlt)
                clear HRX
                go_wp2_with fail
                go_region_law (first
                  | refine step_appRow (f := Value.int .i64) (wd.drew.alloc (.cells #[] 3)) rfl (.tmp 59) (.tmp 62) 38 rfl w.heap.size 3 (.int .i64 0) 8 Try.underlying38 info_int rfl (by omega) (.slice (some ⟨wd.heap.size, 0, none⟩) 0 0) [] T (by simp [Act.eval, Act.put]) own1 (some ⟨g, 1, none⟩) (cap - 1) (by simp [Act.eval, Act.put, hTl]) t1 (fun _ => rfl) hl0 b1 ?_
                    intro v1 w3 o3 g3 a3
                    have o3 : OwI w3 w.heap.size v1 T := o3
                    have q3 : Below wd.heap.size wd w3 := B1.grown g3 B1.size (fun i hi => by simp [Value.ownBlock] at hi; omega)
                    have z3 : w.heap.size ≤ w3.heap.size := Nat.le_trans hbs q3.size
                    have n3 : ∀ i, v1.ownBlock = some i → wd.heap.size ≤ i := fun i hi => by
                      rcases a3 with e | e
                      · rw [e] at hi; simp [Value.ownBlock] at hi; omega
                      · rw [e] at hi; simp at hi; omega
                    have d3 := HDX.out.below q3
                    clear g3 a3
                  | refine step_appRow (f := Value.int .i64) w3 rfl (.tmp 63) (.tmp 67) 38 rfl w.heap.size 3 (.int .i64 0) 8 Try.underlying38 info_int rfl (by omega) v1 T D (by simp [Act.eval, Act.put]) o3 (some ⟨g, K + 1, none⟩) (cap - (K + 1)) (by simp [Act.eval, Act.put, HDD.out]; try (intros; omega)) d3 (fun _ => rfl) hl4 z3 ?_
                    intro v2 w4 o4 g4 a4
                    have o4 : OwI w4 w.heap.size v2 (T ++ D) := o4
                    have q4 : Below wd.heap.size wd w4 := q3.grown g4 q3.size n3
                    have n4 : ∀ i, v2.ownBlock = some i → wd.heap.size ≤ i := fun i hi => by
                      rcases a4 with e | e
                      · rw [e] at hi; exact n3 i hi
                      · rw [e] at hi; have := q3.size; simp at hi; omega
                    obtain ⟨A5, c5', e5, _⟩ := id o4.rd
                    rw [HLen.out] at e5
                    subst e5
                    clear g4 a4)
                all_goals (
                  go_wp2_with fail
                  go_roundw
                  case rel => exact ⟨T ++ D, _, HMS.out, by rw [HLen.out]; omega, HIN2.out, by have := o4; rw [HLen.out] at *; exact this, MD.out.below q4, fun r h1 h2 => (by have := n4 r h1; have := (MD.out.lt r h2).2; omega), (by first | exact ⟨_, _, by rw [HLen.out]⟩ | exact HLen.out.symm | simp [HLen.out]), C6.out.below q4, grown_trans_row G6.out (grown_below q4)⟩
                  case measure => first | (simp only [sliceLen_is]; clear HMS; omega) | (show fr.length - 2 < fr.length; omega))
              · have hPe : K + 1 = cap := by omega
                have hD0 : D = [] := List.eq_nil_of_length_eq_zero (by have := HDD.out; omega)
                subst hD0
                subst hPe
                have hK0 : ¬ K = 0 := by omega
                have hKs : (K : Int) ≤ (K : Int) + 1 := by omega
                have hKn : K ≤ K + 1 := by omega
                clear HRX hPge
                go_wp2_with fail
                go_region_law (first
                  | refine step_appRow (f := Value.int .i64) (wd.drew.alloc (.cells #[] 3)) rfl (.tmp 59) (.tmp 62) 38 rfl w.heap.size 3 (.int .i64 0) 8 Try.underlying38 info_int rfl (by omega) (.slice (some ⟨wd.heap.size, 0, none⟩) 0 0) [] T (by simp [Act.eval, Act.put]) own1 (some ⟨g, 1, none⟩) K (by simp [Act.eval, Act.put, hTl]) t1 (fun _ => rfl) hl0 b1 ?_
                    intro v1 w3 o3 g3 a3
                    have o3 : OwI w3 w.heap.size v1 T := o3
                    have q3 : Below wd.heap.size wd w3 := B1.grown g3 B1.size (fun i hi => by simp [Value.ownBlock] at hi; omega)
                    have z3 : w.heap.size ≤ w3.heap.size := Nat.le_trans hbs q3.size
                    have n3 : ∀ i, v1.ownBlock = some i → wd.heap.size ≤ i := fun i hi => by
                      rcases a3 with e | e
                      · rw [e] at hi; simp [Value.ownBlock] at hi; omega
                      · rw [e] at hi; simp at hi; omega
                    have d3 := RdI.empty_ w3 (some ⟨g, 0, none⟩) 0
                    clear g3 a3
                  | refine step_appRow (f := Value.int .i64) w3 rfl (.tmp 63) (.tmp 67) 38 rfl w.heap.size 3 (.int .i64 0) 8 Try.underlying38 info_int rfl (by omega) v1 T [] (by simp [Act.eval, Act.put]) o3 (some ⟨g, 0, none⟩) 0 (by simp [Act.eval, Act.put]; try (intros; omega)) d3 (fun _ => rfl) hl4 z3 ?_
                    intro v2 w4 o4 g4 a4
                    have o4 : OwI w4 w.heap.size v2 (T ++ []) := o4
                    have q4 : Below wd.heap.size wd w4 := q3.grown g4 q3.size n3
                    have n4 : ∀ i, v2.ownBlock = some i → wd.heap.size ≤ i := fun i hi => by
                      rcases a4 with e | e
                      · rw [e] at hi; exact n3 i hi
                      · rw [e] at hi; have := q3.size; simp at hi; omega
                    obtain ⟨A5, c5', e5, _⟩ := id o4.rd
                    rw [HLen.out] at e5
                    subst e5
                    clear g4 a4)
                all_goals (
                  go_wp2_with fail
                  try go_simp
                  go_roundw
                  case rel => exact ⟨T ++ [], _, HMS.out, by rw [HLen.out]; omega, HIN2.out, by have := o4; rw [HLen.out] at *; exact this, MD.out.below q4, fun r h1 h2 => (by have := n4 r h1; have := (MD.out.lt r h2).2; omega), (by first | exact ⟨_, _, by rw [HLen.out]⟩ | exact HLen.out.symm | simp [HLen.out]), C6.out.below q4, grown_trans_row G6.out (grown_below q4)⟩
                  case measure => first | (simp only [sliceLen_is]; clear HMS; omega) | (show fr.length - 2 < fr.length; omega)))
          · have h1i : ¬ (1 : Int) < (fr.length : Int) := by omega
            subst hms
            have hF : FewS ms := .inl (by omega)
            have hl : ms.length ≤ 12 := by omega
            by_cases hp : 0 < ms.length
            · have hpi : (0 : Int) < (ms.length : Int) := by omega
              have hgb : w.heap.size ≤ gm := (hm.lt gm rfl).1
              have HO := Lib.hid (l1Once_any cb 12 bs _ hcu (by omega) (by omega))
              go_wp2_with (go_at_call 237; refine HO.out.mono ?_; rintro e w5 ⟨z5, rfl, c5, g5⟩; have o5 := hm.cur g5 hcb; have G5 := grown_trans_row hg g5)
              · clear HO
                go_wp2_with (first
                  | (go_at_call 188; refine (l1Below_any cb ms.length bs _ c5 hp (by omega)).mono ?_; rintro e w6 ⟨x6, rfl, hx6, c6, g6⟩; have o6 := o5.cur g6 hcb; have G6 := grown_trans_row G5 g6; have hxi : (x6 : Int) < (ms.length : Int) := (by omega); have c7 := c6.grown (row := none) (World.grownBy_alloc w6 (.cells #[.int .i64 (-1), .int .i64 0, .int .i64 1, .int .i64 9223372036854775807] 3) none) (fun r e => by cases e); have o7 := o6.below ((Below.refl _ _).alloc (Nat.le_refl _) (.cells #[.int .i64 (-1), .int .i64 0, .int .i64 1, .int .i64 9223372036854775807] 3)); have G7 := grown_trans_row G6 (grown_alloc w6 (.cells #[.int .i64 (-1), .int .i64 0, .int .i64 1, .int .i64 9223372036854775807] 3) _); have hP : RdI (w6.alloc (.cells #[.int .i64 (-1), .int .i64 0, .int .i64 1, .int .i64 9223372036854775807] 3)) (.slice (some ⟨w6.heap.size, 0, none⟩) 4 4) [-1, 0, 1, 9223372036854775807] := OwI.rd (OwR.lit (e := 3) (f := Value.int .i64) w6 [-1, 0, 1, 9223372036854775807] w6.heap.size (Nat.le_refl _) (by simp)); have hPne : (Value.slice (some ⟨w6.heap.size, 0, none⟩) 4 4).ownBlock ≠ some cb := (by have := c6.lt; simp [Value.ownBlock]; omega))
                  | (go_at_call 238; refine (l1PickInt_any cb bs _ c7 _ [-1, 0, 1, 9223372036854775807] hP hPne (by simp) (by simp)).mono ?_; rintro e w8 ⟨y, hy, rfl, c8, g8⟩; have o8 := o7.cur g8 hcb; have G8 := grown_trans_row G7 g8; have q2 := o8.cellAt x6 hx6; have q3 := o8.frozenAt x6))
                go_ret
                exact ⟨_, _, rfl, (o8.stored x6 y).1, ⟨(hF.set hx6 y).few, by simpa using hl⟩, c8.other (base := w.heap.size) (v := .slice (some ⟨gm, 0, none⟩) ms.length ms.length) (o8.stored x6 y).2 (fun r e => by have e : gm = r := Option.some.inj e; omega) hcb, grown_new (base := w.heap.size) (v := .slice (some ⟨gm, 0, none⟩) ms.length ms.length) G8 (o8.stored x6 y).2 (fun r e => by have e : gm = r := Option.some.inj e; omega) (Nat.le_refl _)⟩
              · clear HO
                go_ret
                exact ⟨_, _, rfl, o5, ⟨hF.few, hl⟩, c5, G5⟩
            · have hpi : ¬ (0 : Int) < (ms.length : Int) := by omega
              have HOW := Lib.hid hm
              go_wp2_with fail
              go_ret
              exact ⟨_, _, rfl, HOW.out, ⟨hF.few, hl⟩, hcu, hg⟩
theorem DrawIsMatching_any (v : Value) (bs : List UInt8) (w : World) (hv : RdR bf w v bs) : Calls Try.prog 117 #[v] w (RetXI w fun xs => Few xs ∧ xs.length ≤ 12) := by
  go_enter Try.func117, Try.ntmps117
  go_wp2_with fail
  refine (l1New_any v bs w hv).mono ?_; rintro e w1 ⟨rfl, c1, b1⟩
  go_wp2_with fail
  refine (l9Any_any w.heap.size bs w1 c1).mono ?_; rintro e w2 ⟨r, xs, rfl, o2, hx, c2, g2⟩
  go_wp2_with fail
  go_ret
  exact ⟨r, xs, rfl, o2.rd, hx, below_cur b1 g2⟩
theorem DrawTurnMatching_any (v : Value) (bs : List UInt8) (w : World) (hv : RdR bf w v bs) : Calls Try.prog 110 #[v] w fun e w' => ∃ r xs k, e = .returned (.tuple #[r, .int .i64 k]) ∧ RdI w' r xs ∧ (Few xs ∧ xs.length ≤ 12) ∧ I64 k ∧ Below w.heap.size w w' := by
  go_enter Try.func110, Try.ntmps110
  go_wp2_with fail
  refine (l1New_any v bs w hv).mono ?_; rintro e w1 ⟨rfl, c1, b1⟩
  have hw1 := c1.lt
  go_wp2_with fail
  refine (l9Any_any w.heap.size bs w1 c1).mono ?_; rintro e w2 ⟨r, xs, rfl, o2, hx, c2, g2⟩
  have hl := hx.2
  obtain ⟨A, c, rfl, _⟩ := id o2.rd
  have HB := Lib.hid (l1Below_any _ (xs.length + 2) bs _ c2 (by omega) (by omega))
  rw [show ((xs.length + 2 : Nat) : Int) = (xs.length : Int) + 2 by omega] at HB
  go_wp2_with fail
  refine HB.out.mono ?_; rintro e w3 ⟨x, rfl, hx3, c3, g3⟩
  have o3 := o2.cur g3 hw1
  go_wp2_with fail
  go_ret2
  exact ⟨_, xs, (x : Int) - 1, rfl, o3.rd, hx, by unfold I64; omega, below_cur b1 (grown_trans_row g2 g3)⟩
end Go.Proofs.Ytnkkgfeegaiakaa
