/- Contracts of DisplacementOf and LuckyOf, the program's and the reference's. No condition. -/
import Derived.Test.YtnkkgfeegaiakaaPark
namespace Go.Proofs.Ytnkkgfeegaiakaa
open Go.RowKit
theorem specDisplacementOf_any (v : Value) (f : List Int) (w : World) (hv : RdI w v f) :
    Calls Try.prog 143 #[v] w fun e w' => e = .returned (.int .i64 (dispV f)) ∧ Below w.heap.size w w' := by
  have hv0 := hv
  obtain ⟨A, c, rfl, hc, hl, _⟩ := hv
  cases hp : (placesR f).2 with
  | true =>
    obtain ⟨hcar, hlen, hmem⟩ := placesR_ok hp
    have HV := Lib.hid (show dispV f = dispS (placesR f).1 f f.length by unfold dispV; rw [if_pos hp])
    have hl6 := hcar.1
    go_enter Try.func143, Try.ntmps143
    go_wp2_with fail
    refine (specPlacesOf_any _ _ _ hv0).mono ?_; rintro e w1 ⟨r, rfl, o1, b1⟩
    rw [hp]
    clear hp
    generalize hP : (placesR f).1 = P at o1 hlen hmem HV
    have HPP := Lib.hid hP
    have HL := Lib.hid hlen
    have HM := Lib.hid hmem
    have HCC := Lib.hid hcar
    clear hP hlen hmem hcar
    have hA1 := (hv0.below b1).at_
    obtain ⟨A2, c2, rfl, hc2, hl2, hA2⟩ := o1.rd
    have hltn : (P.length : Int) ≤ 6 := by rw [HL.out]; omega
    go_wp2_with fail
    go_loopw [5, 6] (fun n i wr => ∃ (k : Nat) (t : Int), k ≤ f.length ∧ i = .int .i64 k ∧ n = .int .i64 t ∧ -((k : Int) * 6) ≤ t ∧ t ≤ (k : Int) * 6 ∧ Hid (dispS P f k = t) ∧ ∃ q, wr = w1.drewN q) (fun _ i _ => f.length - (intOf i).toNat)
    case atStart => exact ⟨0, 0, by omega, rfl, rfl, by omega, by omega, rfl, 0, rfl⟩
    case round =>
      obtain ⟨k, t, hk, rfl, rfl, ht1, ht2, HT, q, rfl⟩ := hrel
      by_cases hlt : k < f.length
      · have hltP : k < P.length := by rw [HL.out]; exact hlt
        obtain ⟨b, o, rfl, _, h1⟩ := hA1 (by omega)
        obtain ⟨b2, o2, rfl, _, h2⟩ := hA2 (by omega)
        have d1 := h1 k hlt
        have d2 := h2 k hltP
        clear h1 h2 hA1 hA2
        have hb1 := HM.out P[k] (List.getElem_mem hltP)
        have hb2 := (HCC.out.2 k hlt).get hlt
        have e1 : IntKind.i64.wrap (t + P[k]) = t + P[k] := IntWalk.i64_in _ (by omega)
        have e2 : IntKind.i64.wrap (t + P[k] - f[k]) = t + P[k] - f[k] := IntWalk.i64_in _ (by omega)
        go_wp2_with fail
        go_quiet (fail)
        go_wp2_with fail
        go_roundw
        case rel => exact ⟨k + 1, t + P[k] - f[k], by omega, by go_num, rfl, by omega, by omega, by show dispS P f (k + 1) = _; rw [dispS_succ, HT.out, getD_of hlt, getD_of hltP], _, rfl⟩
        case measure => simp [intOf]; omega
      · have hge : ¬ k < P.length := by rw [HL.out]; exact hlt
        have hke : k = f.length := by omega
        go_wp2_with fail
        go_ret
        exact ⟨ret_int (by rw [HV.out, ← HT.out, hke]), below_then b1 (below_draws _ q)⟩
  | false =>
    have HV := Lib.hid (show dispV f = -1 by unfold dispV; rw [if_neg (by rw [hp]; simp)])
    go_enter Try.func143, Try.ntmps143
    go_wp2_with fail
    refine (specPlacesOf_any _ _ _ hv0).mono ?_; rintro e w1 ⟨r, rfl, o1, b1⟩
    rw [hp]
    go_wp2_with fail
    go_ret
    exact ⟨ret_int (by rw [HV.out]), b1⟩
theorem implDisplacementOf_any (v : Value) (f : List Int) (w : World) (hv : RdI w v f) :
    Calls Try.prog 130 #[v] w fun e w' => e = .returned (.int .i64 (dispV f)) ∧ Below w.heap.size w w' := by
  have hv0 := hv
  obtain ⟨A, c, rfl, hc, hl, _⟩ := hv
  cases hp : (placesR f).2 with
  | true =>
    obtain ⟨hcar, hlen, hmem⟩ := placesR_ok hp
    have HV := Lib.hid (show dispV f = dispS (placesR f).1 f f.length by unfold dispV; rw [if_pos hp])
    have hl6 := hcar.1
    go_enter Try.func130, Try.ntmps130
    go_wp2_with fail
    refine (implPlacesOf_any _ _ _ hv0).mono ?_; rintro e w1 ⟨r, rfl, o1, b1⟩
    rw [hp]
    clear hp
    generalize hP : (placesR f).1 = P at o1 hlen hmem HV
    have HPP := Lib.hid hP
    have HL := Lib.hid hlen
    have HM := Lib.hid hmem
    have HCC := Lib.hid hcar
    clear hP hlen hmem hcar
    have hA1 := (hv0.below b1).at_
    obtain ⟨A2, c2, rfl, hc2, hl2, hA2⟩ := o1.rd
    have hltn : (P.length : Int) ≤ 6 := by rw [HL.out]; omega
    go_wp2_with fail
    go_loopw [5, 17] (fun n i wr => ∃ (k : Nat) (t : Int), k ≤ f.length ∧ i = .int .i64 k ∧ n = .int .i64 t ∧ -((k : Int) * 6) ≤ t ∧ t ≤ (k : Int) * 6 ∧ Hid (dispS P f k = t) ∧ ∃ q, wr = w1.drewN q) (fun _ i _ => f.length - (intOf i).toNat)
    case atStart => exact ⟨0, 0, by omega, rfl, rfl, by omega, by omega, rfl, 0, rfl⟩
    case round =>
      obtain ⟨k, t, hk, rfl, rfl, ht1, ht2, HT, q, rfl⟩ := hrel
      by_cases hlt : k < f.length
      · have hltP : k < P.length := by rw [HL.out]; exact hlt
        obtain ⟨b, o, rfl, _, h1⟩ := hA1 (by omega)
        obtain ⟨b2, o2, rfl, _, h2⟩ := hA2 (by omega)
        have d1 := h1 k hlt
        have d2 := h2 k hltP
        clear h1 h2 hA1 hA2
        have hb1 := HM.out P[k] (List.getElem_mem hltP)
        have hb2 := (HCC.out.2 k hlt).get hlt
        have e1 : IntKind.i64.wrap (t + P[k]) = t + P[k] := IntWalk.i64_in _ (by omega)
        have e2 : IntKind.i64.wrap (t + P[k] - f[k]) = t + P[k] - f[k] := IntWalk.i64_in _ (by omega)
        go_wp2_with fail
        go_roundw
        case rel => exact ⟨k + 1, t + P[k] - f[k], by omega, by go_num, rfl, by omega, by omega, by show dispS P f (k + 1) = _; rw [dispS_succ, HT.out, getD_of hlt, getD_of hltP], _, rfl⟩
        case measure => simp [intOf]; omega
      · have hge : ¬ k < P.length := by rw [HL.out]; exact hlt
        have hke : k = f.length := by omega
        go_wp2_with fail
        go_ret
        exact ⟨ret_int (by rw [HV.out, ← HT.out, hke]), below_then b1 (below_draws _ q)⟩
  | false =>
    have HV := Lib.hid (show dispV f = -1 by unfold dispV; rw [if_neg (by rw [hp]; simp)])
    go_enter Try.func130, Try.ntmps130
    go_wp2_with fail
    refine (implPlacesOf_any _ _ _ hv0).mono ?_; rintro e w1 ⟨r, rfl, o1, b1⟩
    rw [hp]
    go_wp2_with fail
    go_ret
    exact ⟨ret_int (by rw [HV.out]), b1⟩
theorem specLuckyOf_any (v : Value) (f : List Int) (w : World) (hv : RdI w v f) :
    Calls Try.prog 145 #[v] w fun e w' => e = .returned (.int .i64 (luckV f)) ∧ Below w.heap.size w w' := by
  have hv0 := hv
  obtain ⟨A, c, rfl, hc, hl, _⟩ := hv
  cases hp : (placesR f).2 with
  | true =>
    obtain ⟨hcar, hlen, hmem⟩ := placesR_ok hp
    have HV := Lib.hid (show luckV f = (cnt f.length (luckF (placesR f).1 f) : Nat) by unfold luckV; rw [if_pos hp])
    have hl6 := hcar.1
    go_enter Try.func145, Try.ntmps145
    go_wp2_with fail
    refine (specPlacesOf_any _ _ _ hv0).mono ?_; rintro e w1 ⟨r, rfl, o1, b1⟩
    rw [hp]
    clear hp
    generalize hP : (placesR f).1 = P at o1 hlen hmem HV
    have HPP := Lib.hid hP
    have HL := Lib.hid hlen
    have HM := Lib.hid hmem
    have HCC := Lib.hid hcar
    clear hP hlen hmem hcar
    have hA1 := (hv0.below b1).at_
    obtain ⟨A2, c2, rfl, hc2, hl2, hA2⟩ := o1.rd
    have hltn : (P.length : Int) ≤ 6 := by rw [HL.out]; omega
    go_wp2_with fail
    go_loopw [5, 6] (fun n i wr => ∃ (k t : Nat), k ≤ f.length ∧ i = .int .i64 k ∧ n = .int .i64 t ∧ t ≤ k ∧ Hid (cnt k (luckF P f) = t) ∧ ∃ q, wr = w1.drewN q) (fun _ i _ => f.length - (intOf i).toNat)
    case atStart => exact ⟨0, 0, by omega, rfl, rfl, by omega, rfl, 0, rfl⟩
    case round =>
      obtain ⟨k, t, hk, rfl, rfl, ht1, HT, q, rfl⟩ := hrel
      by_cases hlt : k < f.length
      · have hltP : k < P.length := by rw [HL.out]; exact hlt
        obtain ⟨b, o, rfl, _, h1⟩ := hA1 (by omega)
        obtain ⟨b2, o2, rfl, _, h2⟩ := hA2 (by omega)
        have d1 := h1 k hlt
        have d2 := h2 k hltP
        clear h1 h2 hA1 hA2
        have hb1 := HM.out P[k] (List.getElem_mem hltP)
        have hb2 := (HCC.out.2 k hlt).get hlt
        by_cases he : P[k] = f[k]
        · have f1 : (P[k] == f[k]) = true := by simpa using he
          have HF := Lib.hid (show luckF P f k = true by unfold luckF; rw [getD_of hlt, getD_of hltP]; exact f1)
          clear he
          go_wp2_with fail
          go_quiet (fail)
          go_wp2_with fail
          go_roundw
          case rel => exact ⟨k + 1, t + 1, by omega, by go_num, by go_num, by omega, by show cnt (k + 1) _ = _; rw [cnt_hit HF.out, HT.out], _, rfl⟩
          case measure => simp [intOf]; omega
        · have f1 : (P[k] == f[k]) = false := by simpa using he
          have HF := Lib.hid (show luckF P f k = false by unfold luckF; rw [getD_of hlt, getD_of hltP]; exact f1)
          clear he
          go_wp2_with fail
          go_quiet (fail)
          go_wp2_with fail
          go_roundw
          case rel => exact ⟨k + 1, t, by omega, by go_num, rfl, by omega, by show cnt (k + 1) _ = _; rw [cnt_miss HF.out, HT.out], _, rfl⟩
          case measure => simp [intOf]; omega
      · have hge : ¬ k < P.length := by rw [HL.out]; exact hlt
        have hke : k = f.length := by omega
        go_wp2_with fail
        go_ret
        exact ⟨ret_int (by rw [HV.out, ← HT.out, hke]), below_then b1 (below_draws _ q)⟩
  | false =>
    have HV := Lib.hid (show luckV f = -1 by unfold luckV; rw [if_neg (by rw [hp]; simp)])
    go_enter Try.func145, Try.ntmps145
    go_wp2_with fail
    refine (specPlacesOf_any _ _ _ hv0).mono ?_; rintro e w1 ⟨r, rfl, o1, b1⟩
    rw [hp]
    go_wp2_with fail
    go_ret
    exact ⟨ret_int (by rw [HV.out]), b1⟩
theorem implLuckyOf_any (v : Value) (f : List Int) (w : World) (hv : RdI w v f) :
    Calls Try.prog 144 #[v] w fun e w' => e = .returned (.int .i64 (luckV f)) ∧ Below w.heap.size w w' := by
  have hv0 := hv
  obtain ⟨A, c, rfl, hc, hl, _⟩ := hv
  cases hp : (placesR f).2 with
  | true =>
    obtain ⟨hcar, hlen, hmem⟩ := placesR_ok hp
    have HV := Lib.hid (show luckV f = (cnt f.length (luckF (placesR f).1 f) : Nat) by unfold luckV; rw [if_pos hp])
    have hl6 := hcar.1
    go_enter Try.func144, Try.ntmps144
    go_wp2_with fail
    refine (implPlacesOf_any _ _ _ hv0).mono ?_; rintro e w1 ⟨r, rfl, o1, b1⟩
    rw [hp]
    clear hp
    generalize hP : (placesR f).1 = P at o1 hlen hmem HV
    have HPP := Lib.hid hP
    have HL := Lib.hid hlen
    have HM := Lib.hid hmem
    have HCC := Lib.hid hcar
    clear hP hlen hmem hcar
    have hA1 := (hv0.below b1).at_
    obtain ⟨A2, c2, rfl, hc2, hl2, hA2⟩ := o1.rd
    have hltn : (P.length : Int) ≤ 6 := by rw [HL.out]; omega
    go_wp2_with fail
    go_loopw [5, 17] (fun n i wr => ∃ (k t : Nat), k ≤ f.length ∧ i = .int .i64 k ∧ n = .int .i64 t ∧ t ≤ k ∧ Hid (cnt k (luckF P f) = t) ∧ ∃ q, wr = w1.drewN q) (fun _ i _ => f.length - (intOf i).toNat)
    case atStart => exact ⟨0, 0, by omega, rfl, rfl, by omega, rfl, 0, rfl⟩
    case round =>
      obtain ⟨k, t, hk, rfl, rfl, ht1, HT, q, rfl⟩ := hrel
      by_cases hlt : k < f.length
      · have hltP : k < P.length := by rw [HL.out]; exact hlt
        obtain ⟨b, o, rfl, _, h1⟩ := hA1 (by omega)
        obtain ⟨b2, o2, rfl, _, h2⟩ := hA2 (by omega)
        have d1 := h1 k hlt
        have d2 := h2 k hltP
        clear h1 h2 hA1 hA2
        have hb1 := HM.out P[k] (List.getElem_mem hltP)
        have hb2 := (HCC.out.2 k hlt).get hlt
        by_cases he : P[k] = f[k]
        · have f1 : (P[k] == f[k]) = true := by simpa using he
          have HF := Lib.hid (show luckF P f k = true by unfold luckF; rw [getD_of hlt, getD_of hltP]; exact f1)
          clear he
          go_wp2_with fail
          go_roundw
          case rel => exact ⟨k + 1, t + 1, by omega, by go_num, by go_num, by omega, by show cnt (k + 1) _ = _; rw [cnt_hit HF.out, HT.out], _, rfl⟩
          case measure => simp [intOf]; omega
        · have f1 : (P[k] == f[k]) = false := by simpa using he
          have HF := Lib.hid (show luckF P f k = false by unfold luckF; rw [getD_of hlt, getD_of hltP]; exact f1)
          clear he
          go_wp2_with fail
          go_roundw
          case rel => exact ⟨k + 1, t, by omega, by go_num, rfl, by omega, by show cnt (k + 1) _ = _; rw [cnt_miss HF.out, HT.out], _, rfl⟩
          case measure => simp [intOf]; omega
      · have hge : ¬ k < P.length := by rw [HL.out]; exact hlt
        have hke : k = f.length := by omega
        go_wp2_with fail
        go_ret
        exact ⟨ret_int (by rw [HV.out, ← HT.out, hke]), below_then b1 (below_draws _ q)⟩
  | false =>
    have HV := Lib.hid (show luckV f = -1 by unfold luckV; rw [if_neg (by rw [hp]; simp)])
    go_enter Try.func144, Try.ntmps144
    go_wp2_with fail
    refine (implPlacesOf_any _ _ _ hv0).mono ?_; rintro e w1 ⟨r, rfl, o1, b1⟩
    rw [hp]
    go_wp2_with fail
    go_ret
    exact ⟨ret_int (by rw [HV.out]), b1⟩
end Go.Proofs.Ytnkkgfeegaiakaa
