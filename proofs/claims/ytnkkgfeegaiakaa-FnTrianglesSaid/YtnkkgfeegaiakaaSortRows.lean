/- Contract of the library's slices.SortFunc with slices.Compare at a short slice of rows that the call owns: sorted by insertion. Condition: at most twelve rows. -/
import Derived.Test.YtnkkgfeegaiakaaRowsOk
import Derived.Test.YtnkkgfeegaiakaaCmp
import Derived.Test.YtnkkgfeegaiakaaPlain26
namespace Go.Proofs.Ytnkkgfeegaiakaa
open Go.RowKit
/-- the order of rows; of rows with their values -/
def ltL (a b : List Int) : Bool := decide (cmpL a b < 0)
def ltP (a b : Value × List Int) : Bool := ltL a.2 b.2
def dP : Value × List Int := (.slice none 0 0, [])
theorem mem_swpG {l : List (Value × List Int)} {j : Nat} (h : j + 1 < l.length) : ∀ q, q ∈ swpG dP l j ↔ q ∈ l := by
  intro q
  unfold swpG
  rw [getD_of h, getD_of (show j < l.length by omega)]
  constructor
  · intro hq
    rcases List.mem_or_eq_of_mem_set hq with hq | hq
    · rcases List.mem_or_eq_of_mem_set hq with hq | hq
      · exact hq
      · rw [hq]; exact List.getElem_mem _
    · rw [hq]; exact List.getElem_mem _
  · intro hq
    obtain ⟨i, hi, e⟩ := List.mem_iff_getElem.1 hq
    by_cases h1 : i = j
    · subst h1
      rw [← e]
      refine List.mem_iff_getElem.2 ⟨i + 1, by simpa using h, ?_⟩
      rw [List.getElem_set_ne (by omega), List.getElem_set_self]
    · by_cases h2 : i = j + 1
      · subst h2
        rw [← e]
        exact List.mem_iff_getElem.2 ⟨j, by simp; omega, by rw [List.getElem_set_self]⟩
      · rw [← e]
        refine List.mem_iff_getElem.2 ⟨i, by simpa using hi, ?_⟩
        rw [List.getElem_set_ne (by omega), List.getElem_set_ne (by omega)]
/-- the rows' values, apart from each other, in whatever order -/
theorem swpG_perm {l : List (Value × List Int)} {j : Nat} (h : j + 1 < l.length) : (swpG dP l j).Perm l := by
  unfold swpG
  rw [getD_of h, getD_of (show j < l.length by omega)]
  have e1 : l = l.take j ++ l[j] :: l[j + 1] :: l.drop (j + 2) := by
    rw [← drop_get_cons _ _ h, ← drop_get_cons _ _ (show j < l.length by omega), List.take_append_drop]
  have hl : (l.take j).length = j := by rw [List.length_take]; omega
  generalize l[j] = x at e1 ⊢
  generalize l[j + 1] = y at e1 ⊢
  generalize l.take j = A at e1 hl
  generalize l.drop (j + 2) = C at e1
  subst e1
  subst hl
  have e2 : ((A ++ x :: y :: C).set (A.length + 1) x).set A.length y = A ++ y :: x :: C := by simp [List.set_append_right]
  rw [e2]
  exact List.Perm.append_left _ (List.Perm.swap _ _ _)
theorem insG_perm : ∀ (j : Nat) (l : List (Value × List Int)), j < l.length ∨ j = 0 → (insG dP ltP j l).Perm l := by
  intro j
  induction j with
  | zero => intro l _; exact List.Perm.refl _
  | succ j ih =>
    intro l h
    unfold insG
    split
    · exact (ih _ (by rw [swpG_len]; omega)).trans (swpG_perm (by omega))
    · exact List.Perm.refl _
theorem srtG_perm (l : List (Value × List Int)) : ∀ i, i ≤ l.length → (srtG dP ltP l i).Perm l := by
  intro i
  induction i with
  | zero => intro _; exact List.Perm.refl _
  | succ i ih =>
    intro h
    rw [srtG_succ]
    exact (insG_perm i _ (by rw [srtG_len]; omega)).trans (ih (by omega))
theorem RowsOk.perm {w : World} {base : Nat} {Ps Qs : List (Value × List Int)} (h : RowsOk w base Ps) (hp : Qs.Perm Ps) : RowsOk w base Qs :=
  ⟨fun q hq => h.1 q (hp.subset hq), (hp.pairwise_iff (fun hab => Apart.symm hab)).2 h.2⟩
theorem Spine.cellAt {w : World} {base g n cap : Nat} {Ps : List (Value × List Int)} (h : Spine w base (.slice (some ⟨g, 0, none⟩) n cap) Ps) (j : Nat) (hj : j < Ps.length) : w.cell? ⟨g, j, none⟩ = some Ps[j].1 := by
  have := OwR.cellAt h j (by simpa using hj)
  simpa using this
theorem Spine.frozenAt {w : World} {base g n cap : Nat} {Ps : List (Value × List Int)} (h : Spine w base (.slice (some ⟨g, 0, none⟩) n cap) Ps) (j : Nat) : w.frozen? ⟨g, j, none⟩ = false := OwR.frozenAt h j
theorem Spine.stored {w : World} {base g n cap : Nat} {Ps : List (Value × List Int)} (h : Spine w base (.slice (some ⟨g, 0, none⟩) n cap) Ps) (j : Nat) (q : Value × List Int) :
    Spine (w.setCell ⟨g, j, none⟩ q.1) base (.slice (some ⟨g, 0, none⟩) n cap) (Ps.set j q) ∧ w.grownBy (w.setCell ⟨g, j, none⟩ q.1) (some g) := by
  have := OwR.stored h j q.1
  exact ⟨by unfold Spine; rw [List.map_set]; exact this.1, this.2⟩
set_option maxRecDepth 8000 in
set_option maxHeartbeats 3200000 in
theorem isortC_any (g cap : Nat) (xs : List (Value × List Int)) (w : World) (base : Nat) (hown : Spine w base (.slice (some ⟨g, 0, none⟩) xs.length cap) xs) (hrow : RowsOk w base xs) (hn : xs.length ≤ 12) :
    Calls Try.prog 245 #[.slice (some ⟨g, 0, none⟩) xs.length cap, .int .i64 0, .int .i64 (xs.length : Int), .func (.func 166) #[] #[]] w
      fun e w' => e = .returned (.tuple #[]) ∧ Spine w' base (.slice (some ⟨g, 0, none⟩) xs.length cap) (srtG dP ltP xs xs.length) ∧ RowsOk w' base (srtG dP ltP xs xs.length) ∧ w.grownBy w' (some g) := by
  go_enter Try.func245, Try.ntmps245
  go_wp2_with fail
  go_loopw [8] (fun v wr => ∃ i : Nat, 1 ≤ i ∧ (i ≤ xs.length ∨ i = 1) ∧ v = .int .i64 (i : Int) ∧ Spine wr base (.slice (some ⟨g, 0, none⟩) xs.length cap) (srtG dP ltP xs i) ∧ RowsOk wr base (srtG dP ltP xs i) ∧ w.grownBy wr (some g)) (fun v _ => xs.length + 1 - (intOf v).toNat)
  case atStart => exact ⟨1, by omega, by omega, rfl, hown, hrow, World.grownBy.refl _ _⟩
  case round =>
    clear hown hrow
    obtain ⟨i, h1, hi, rfl, hown, hrow, hG⟩ := hrel
    by_cases hlt : i < xs.length
    · have HS := Lib.hid (srtG_succ dP ltP xs i)
      have hsl := srtG_len dP ltP xs i
      go_wp2_with fail
      go_loopw [9] (fun v wr => ∃ (j : Nat) (l : List (Value × List Int)), j ≤ i ∧ v = .int .i64 (j : Int) ∧ Spine wr base (.slice (some ⟨g, 0, none⟩) xs.length cap) l ∧ RowsOk wr base l ∧ Hid (l.length = xs.length) ∧ Hid (insG dP ltP j l = srtG dP ltP xs (i + 1)) ∧ w.grownBy wr (some g)) (fun v _ => (intOf v).toNat)
      case atStart => exact ⟨i, srtG dP ltP xs i, by omega, rfl, hown, hrow, hsl, HS.out.symm, hG⟩
      case round =>
        clear hown hG hsl HS hrow
        obtain ⟨j, l, hj, rfl, hown, hrow, HL, HI, hG⟩ := hrel
        rcases j with _ | m
        · have HE := Lib.hid (show l = srtG dP ltP xs (i + 1) from HI.out)
          obtain ⟨J, hJ⟩ : ∃ J : Int, J = ((0 : Nat) : Int) := ⟨_, rfl⟩
          rw [← hJ]
          have d0 : decide ((0 : Int) < J) = false := decide_eq_false (by omega)
          clear hJ
          have HSP := Lib.hid hown
          have HRW := Lib.hid hrow
          clear hown hrow
          go_wp2_with fail
          go_quiet (fail)
          go_wp2_with fail
          go_roundw
          case rel => exact ⟨i + 1, by omega, by omega, by go_num, by rw [← HE.out]; exact HSP.out, by rw [← HE.out]; exact HRW.out, grown_trans_row hG (grown_draws _ _ _)⟩
          case measure => simp [intOf]; omega
        · have hm1 : m + 1 < l.length := by rw [HL.out]; omega
          have hm0 : m < l.length := by rw [HL.out]; omega
          have c0 := hown.cellAt m hm0
          have c1 := hown.cellAt (m + 1) hm1
          have z0 := hown.frozenAt m
          have z1 := hown.frozenAt (m + 1)
          have hIS : insG dP ltP (m + 1) l = if ltP l[m + 1] l[m] = true then insG dP ltP m (swpG dP l m) else l := by
            show (if ltP (l.getD (m + 1) dP) (l.getD m dP) = true then insG dP ltP m (swpG dP l m) else l) = _
            rw [getD_of hm1, getD_of hm0]
          have hSW : swpG dP l m = (l.set (m + 1) l[m]).set m l[m + 1] := by unfold swpG; rw [getD_of hm1, getD_of hm0]
          have HIS := Lib.hid hIS
          have HSW := Lib.hid hSW
          clear hIS hSW
          have hrX := hrow.1 l[m + 1] (List.getElem_mem hm1)
          have hrY := hrow.1 l[m] (List.getElem_mem hm0)
          have hs5 := hown.stored (m + 1) l[m]
          have hs6 := hs5.1.stored m l[m + 1]
          have HRP := Lib.hid (((hrow.spine hown hs5.2).spine (Rs := l.set (m + 1) l[m]) hs5.1 hs6.2).perm (swpG_perm hm1))
          generalize hX : l[m + 1] = X at *
          generalize hY : l[m] = Y at *
          clear hX hY
          have HS6 := Lib.hid hs6.1
          have HG6 := Lib.hid (grown_trans_row hs5.2 hs6.2)
          have HC := Lib.hid (fun q => slicesCompare_any X.1 Y.1 X.2 Y.2 (wr.drewN q) hrX.rd hrY.rd)
          obtain ⟨XA, Xc, hXe, _⟩ := id hrX.rd
          obtain ⟨YA, Yc, hYe, _⟩ := id hrY.rd
          obtain ⟨Xv, Xl⟩ := X
          obtain ⟨Yv, Yl⟩ := Y
          simp only at hXe hYe c0 c1 HC HG6 HS6 HRP HIS HSW
          subst hXe
          subst hYe
          clear hs5 hs6 hrX hrY
          have HSP := Lib.hid hown
          have HRW := Lib.hid hrow
          clear hown hrow
          have e1 : IntKind.i64.wrap (m : Int) = (m : Int) := IntWalk.i64_in _ (by omega)
          have e2 : ((m : Int) + 1).toNat = m + 1 := by omega
          have e3 : (0 : Int) ≤ (m : Int) + 1 := by omega
          have e4 : (m : Int) + 1 < (xs.length : Int) := by rw [← HL.out]; omega
          have e5 : (m : Int) < (xs.length : Int) := by omega
          have e6 : decide ((0 : Int) < (m : Int) + 1) = true := decide_eq_true (by omega)
          by_cases hXY : cmpL Xl Yl < 0
          · have HN := Lib.hid (show insG dP ltP m (swpG dP l m) = srtG dP ltP xs (i + 1) by rw [← HI.out, HIS.out, if_pos (show ltP (.slice XA Xl.length Xc, Xl) (.slice YA Yl.length Yc, Yl) = true from decide_eq_true hXY)])
            have dXY : decide (cmpL Xl Yl < 0) = true := decide_eq_true hXY
            rw [show ((m + 1 : Nat) : Int) = (m : Int) + 1 by omega]
            go_wp2_with fail
            go_quiet ((go_at_call 166; exact quiet_left (HC.out _)))
            go_wp2_with fail
            go_region
            all_goals (
              go_wp2_with fail
              go_roundw
              case rel => exact ⟨m, swpG dP l m, by omega, by go_num, by rw [HSW.out]; exact HS6.out, HRP.out, (swpG_len dP l m).trans HL.out, HN.out, grown_trans_row hG (grown_trans_row HG6.out (grown_draws _ (nq + 1) _))⟩
              case measure => (simp [intOf]; try omega))
          · have HN := Lib.hid (show l = srtG dP ltP xs (i + 1) by rw [← HI.out, HIS.out, if_neg (show ¬ ltP (.slice XA Xl.length Xc, Xl) (.slice YA Yl.length Yc, Yl) = true from fun h => hXY (of_decide_eq_true h))])
            have dXY : decide (cmpL Xl Yl < 0) = false := decide_eq_false hXY
            rw [show ((m + 1 : Nat) : Int) = (m : Int) + 1 by omega]
            go_wp2_with fail
            go_quiet ((go_at_call 166; exact quiet_left (HC.out _)))
            go_wp2_with fail
            go_roundw
            case rel => exact ⟨i + 1, by omega, by omega, by go_num, by rw [← HN.out]; exact HSP.out, by rw [← HN.out]; exact HRW.out, grown_trans_row hG (grown_draws _ _ _)⟩
            case measure => simp [intOf]; omega
    · have hE : srtG dP ltP xs i = srtG dP ltP xs xs.length := by
        rcases hi with hi | hi
        · rw [show i = xs.length by omega]
        · subst hi
          rcases Nat.eq_zero_or_pos xs.length with h | h
          · rw [h]; rfl
          · rw [show xs.length = 1 by omega]
      have HE := Lib.hid hE
      clear hE
      go_wp2_with fail
      go_end0
      exact ⟨rfl, by rw [← HE.out]; exact hown, by rw [← HE.out]; exact hrow, hG⟩
theorem pdqC_any (g cap L : Nat) (r : Int) (xs : List (Value × List Int)) (w : World) (base : Nat) (hown : Spine w base (.slice (some ⟨g, 0, none⟩) xs.length cap) xs) (hrow : RowsOk w base xs) (hn : xs.length ≤ 12) (hL : L = xs.length) :
    Calls Try.prog 230 #[.slice (some ⟨g, 0, none⟩) xs.length cap, .int .i64 0, .int .i64 (xs.length : Int), .int .i64 r, .func (.func 166) #[] #[]] w
      fun e w' => e = .returned (.tuple #[]) ∧ Spine w' base (.slice (some ⟨g, 0, none⟩) xs.length cap) (srtG dP ltP xs xs.length) ∧ RowsOk w' base (srtG dP ltP xs xs.length) ∧ w.grownBy w' (some g) := by
  have h12 : (xs.length : Int) ≤ 12 := by omega
  have HI := isortC_any g cap xs w base hown hrow hn
  clear hown hL hrow
  go_enter Try.func230, Try.ntmps230
  go_wp2_with fail
  refine wp_loop_rounds 1 ?_
  rw [rounds_succ]
  go_wp2_with fail
  refine HI.mono ?_; rintro e w' ⟨rfl, h1, h2, h3⟩
  go_wp2_with fail
  refine bodyPost_ret (results_none rfl _ _ _) rfl ?_
  exact ⟨rfl, h1, h2, h3⟩
theorem sortRows_any (g cap : Nat) (xs : List (Value × List Int)) (w : World) (base : Nat) (hown : Spine w base (.slice (some ⟨g, 0, none⟩) xs.length cap) xs) (hrow : RowsOk w base xs) (hn : xs.length ≤ 12) :
    Calls Try.prog 165 #[.slice (some ⟨g, 0, none⟩) xs.length cap, .func (.func 166) #[] #[]] w
      fun e w' => e = .returned (.tuple #[]) ∧ Spine w' base (.slice (some ⟨g, 0, none⟩) xs.length cap) (srtG dP ltP xs xs.length) ∧ RowsOk w' base (srtG dP ltP xs xs.length) ∧ w.grownBy w' (some g) := by
  have HI := fun r => pdqC_any g cap xs.length r xs w base hown hrow hn rfl
  clear hown hrow
  go_enter Try.func165, Try.ntmps165
  go_wp2_with fail
  refine (bitsLen_any _ _ hn).mono ?_; rintro e w' ⟨r, rfl, rfl⟩
  go_wp2_with fail
  refine (HI r).mono ?_; rintro e w' ⟨rfl, h1, h2, h3⟩
  go_wp2_with fail
  go_end0
  exact ⟨rfl, h1, h2, h3⟩
end Go.Proofs.Ytnkkgfeegaiakaa
