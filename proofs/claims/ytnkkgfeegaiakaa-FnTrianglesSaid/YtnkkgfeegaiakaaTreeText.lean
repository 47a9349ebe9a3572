/- Contracts of (*tree).text, l7Tree and BinaryOfTriangles, the program's and the reference's: the text of the tree of first third corners. Conditions: a small tree; a number of Go's. -/
import Derived.Test.YtnkkgfeegaiakaaTreeNodes
import Derived.Test.YtnkkgfeegaiakaaTriOfImpl
import Derived.Test.YtnkkgfeegaiakaaTriSpec
import Derived.Test.YtnkkgfeegaiakaaGround
import Derived.Test.YtnkkgfeegaiakaaPlain34
namespace Go.Proofs.Ytnkkgfeegaiakaa
open Go.RowKit
theorem S_apd (a b : List UInt8) : S a ++ S b = S (a ++ b) := by
  unfold S
  rw [ByteArray.mk_append_mk]
  try simp
theorem txt_glue (a b : Tr) : (⟨#[40]⟩ : ByteArray) ++ S (txT a) ++ S (txT b) ++ ⟨#[41]⟩ = S (txT (.nd a b)) := by
  rw [show (⟨#[40]⟩ : ByteArray) = S [40] from rfl, show (⟨#[41]⟩ : ByteArray) = S [41] from rfl, S_apd, S_apd, S_apd]
  simp [txT]
theorem ret_txt {s t : ByteArray} (h : s = t) : Ending.returned (.string s) = Ending.returned (.string t) := by rw [h]
set_option maxRecDepth 8000 in
set_option maxHeartbeats 2000000 in
theorem text_any : ∀ (T : Tr) (v : Value) (w : World), TreeAt w v T → T.size ≤ 100 →
    Calls Try.prog 222 #[v] w fun e w' => e = .returned (.string (S (txT T))) ∧ ∃ q, w' = w.drewN q := by
  intro T
  induction T with
  | lf =>
    intro v w h _
    obtain rfl : v = .pointer none := h
    go_enter Try.func222, Try.ntmps222
    go_wp2_with fail
    go_ret
    exact ⟨rfl, 0, rfl⟩
  | nd a b iha ihb =>
    intro v w h hs
    obtain ⟨g, va, vb, rfl, hb, ta, tb⟩ := h
    obtain ⟨pa, rfl⟩ := TreeAt.ptr _ ta
    obtain ⟨pb, rfl⟩ := TreeAt.ptr _ tb
    obtain ⟨c0, c1⟩ := two_cells' hb
    have hsz : (Tr.nd a b).size = a.size + b.size + 1 := rfl
    have hsa : a.size ≤ 100 := by omega
    have hsb : b.size ≤ 100 := by omega
    have HA : Hid (∀ w1, Below w.heap.size w w1 → Calls Try.prog 222 #[.pointer pa] w1 fun e w' => e = .returned (.string (S (txT a))) ∧ ∃ m, w' = w1.drewN m) := Lib.hid fun w1 h => iha _ _ (TreeAt.below h _ ta) hsa
    have HB : Hid (∀ w1, Below w.heap.size w w1 → Calls Try.prog 222 #[.pointer pb] w1 fun e w' => e = .returned (.string (S (txT b))) ∧ ∃ m, w' = w1.drewN m) := Lib.hid fun w1 h => ihb _ _ (TreeAt.below h _ tb) hsb
    have HG := Lib.hid (txt_glue a b)
    have zA : (S (txT a)).size ≤ 301 := by rw [S_size, txT_len]; omega
    have zB : (S (txT b)).size ≤ 301 := by rw [S_size, txT_len]; omega
    clear iha ihb ta tb hb hsz
    generalize S (txT a) = sa at *
    generalize S (txT b) = sb at *
    have n1 : ¬ 9223372036854775807 < 1 + sa.size := by omega
    have n2 : ¬ 9223372036854775807 < 1 + sa.size + sb.size := by omega
    have n3 : ¬ 9223372036854775807 < 1 + sa.size + sb.size + 1 := by omega
    go_enter Try.func222, Try.ntmps222
    go_wp2_with fail
    go_region_law (first
      | (go_simp
         go_at_call_of 222 (Value.pointer pa)
         have H1 := HA.out w.drew (below_draws w 1)
         refine H1.mono ?_
         clear H1
         rintro e w3 ⟨rfl, q3, rfl⟩)
      | (go_simp
         go_at_call_of 222 (Value.pointer pb)
         have H1 := HB.out (w.drewN (1 + q3)) (below_draws w _)
         refine H1.mono ?_
         clear H1
         rintro e w4 ⟨rfl, q4, rfl⟩))
    all_goals (
      go_wp2_with fail
      go_ret
      exact ⟨ret_txt HG.out, _, rfl⟩)
theorem sd_ed {n : Int} {d : List (List Int)} {a b : Int} (h : ¬ (a = 0 ∧ b = n - 1)) : sdB n d a b = ed d a b := by
  rw [Bool.eq_iff_iff, sdB_iff]
  unfold JJ
  exact ⟨fun q => q.resolve_right h, .inl⟩
set_option maxRecDepth 8000 in
set_option maxHeartbeats 4000000 in
theorem l7Tree_any (n : Int) (d : List (List Int)) (h2 : Two d) (hn : 2 ≤ n ∧ n ≤ 10) : ∀ (f : Nat) (l r : Int) (dv : Value) (w : World), (r - l).toNat ≤ f → 0 ≤ l ∧ l + 1 ≤ r ∧ r ≤ n - 1 → RdSS w dv d → (tOf d f l r).size ≤ 20 →
    Calls Try.prog 227 #[.int .i64 n, dv, .int .i64 l, .int .i64 r] w fun e w' => e = .returned (.string (S (txT (tOf d f l r)))) ∧ ∃ q, w' = w.drewN q := by
  intro f
  induction f with
  | zero => intro l r dv w hf hl; omega
  | succ f ih =>
    intro l r dv w hf hl hv hsz
    obtain ⟨A, c, edv, _, _, _⟩ := id hv
    subst edv
    have ew : IntKind.i64.wrap (l + 1) = l + 1 := IntWalk.i64_in _ (by omega)
    have HIH := Lib.hid ih
    have HV := Lib.hid hv
    have HSZ := Lib.hid hsz
    clear ih hv hsz
    by_cases hr : r = l + 1
    · have f1 : (r == l + 1) = true := beq_iff_eq.2 hr
      have HT := Lib.hid (show tOf d (f + 1) l r = .lf by
        have := apx_miss (d := d) (l := l) (r := r) (k := 0) (by omega) (fun i hi => by omega)
        show (match apx d l r with | none => Tr.lf | some m => Tr.nd (tOf d f l m) (tOf d f m r)) = _
        rw [this])
      clear hr
      go_enter Try.func227, Try.ntmps227
      go_wp2_with fail
      go_ret
      exact ⟨by rw [HT.out]; rfl, 0, rfl⟩
    · have f1 : (r == l + 1) = false := beq_eq_false_iff_ne.2 hr
      have hlr : l + 1 < r := by omega
      clear hr
      go_enter Try.func227, Try.ntmps227
      go_wp2_with fail
      go_loopw [9] (fun m wr => ∃ k : Nat, m = .int .i64 (l + 1 + (k : Int)) ∧ k ≤ 10 ∧ Hid (∀ i, i < k → (ed d l (l + 1 + (i : Int)) && ed d (l + 1 + (i : Int)) r) = false) ∧ ∃ q, wr = w.drewN q) (fun m _ => 22 - (intOf m).toNat)
      case atStart => exact ⟨0, by simp, by omega, fun i hi => absurd hi (by omega), 0, rfl⟩
      case round =>
        obtain ⟨k, rfl, hk10, HP, q8, rfl⟩ := hrel
        by_cases hlt : l + 1 + (k : Int) < r
        · obtain ⟨M, hM⟩ : ∃ M, M = l + 1 + (k : Int) := ⟨_, rfl⟩
          rw [← hM] at hlt ⊢
          have hMr : 0 ≤ M ∧ M ≤ 10 := by omega
          have e1 : sdB n d l M = ed d l M := sd_ed (by omega)
          have e2 : sdB n d M r = ed d M r := sd_ed (by omega)
          have HE1 := Lib.hid (fun wq (hq : RdSS wq (.slice A d.length c) d) => l7Side_any n l M _ d wq hq h2 (by omega) (by omega) hMr)
          have HE2 := Lib.hid (fun wq (hq : RdSS wq (.slice A d.length c) d) => l7Side_any n M r _ d wq hq h2 (by omega) hMr (by omega))
          rw [e1] at HE1
          rw [e2] at HE2
          have ewM : IntKind.i64.wrap (M + 1) = M + 1 := IntWalk.i64_in _ (by omega)
          have HM := Lib.hid hM
          have hmm : M < 20 := by omega
          clear hM e1 e2
          rcases h1 : ed d l M with _ | _
          · rw [h1] at HE1
            have HN := Lib.hid (show ∀ i, i < k + 1 → (ed d l (l + 1 + (i : Int)) && ed d (l + 1 + (i : Int)) r) = false from fun i hi => by
              rcases Nat.lt_or_ge i k with q | q
              · exact HP.out i q
              · rw [show i = k by omega, ← HM.out, h1]; rfl)
            clear h1
            go_wp2_with fail
            refine (HE1.out _ (HV.out.below (below_draws w _))).mono ?_; rintro e w2 ⟨rfl, q2, rfl⟩
            go_wp2_with fail
            go_roundw
            case rel => exact ⟨k + 1, by rw [HM.out]; congr 1; omega, by have := HM.out; omega, HN.out, _, rfl⟩
            case measure => simp [intOf]; omega
          · rw [h1] at HE1
            rcases h3 : ed d M r with _ | _
            · rw [h3] at HE2
              have HN := Lib.hid (show ∀ i, i < k + 1 → (ed d l (l + 1 + (i : Int)) && ed d (l + 1 + (i : Int)) r) = false from fun i hi => by
                rcases Nat.lt_or_ge i k with q | q
                · exact HP.out i q
                · rw [show i = k by omega, ← HM.out, h1, h3]; rfl)
              clear h1 h3
              go_wp2_with fail
              refine (HE1.out _ (HV.out.below (below_draws w _))).mono ?_; rintro e w2 ⟨rfl, q2, rfl⟩
              go_wp2_with fail
              refine (HE2.out _ (HV.out.below (below_draws w _))).mono ?_; rintro e w2 ⟨rfl, q3, rfl⟩
              go_wp2_with fail
              go_roundw
              case rel => exact ⟨k + 1, by rw [HM.out]; congr 1; omega, by have := HM.out; omega, HN.out, _, rfl⟩
              case measure => simp [intOf]; omega
            · rw [h3] at HE2
              have HT := Lib.hid (show tOf d (f + 1) l r = .nd (tOf d f l M) (tOf d f M r) by
                have := apx_hit (by rw [← HM.out]; exact hlt) HP.out (by rw [← HM.out, h1, h3]; rfl)
                rw [← HM.out] at this
                show (match apx d l r with | none => Tr.lf | some m => Tr.nd (tOf d f l m) (tOf d f m r)) = _
                rw [this])
              have hMl : l < M := by have := HM.out; omega
              have hs0 : (tOf d f l M).size + (tOf d f M r).size + 1 ≤ 20 := by have := HSZ.out; rw [HT.out] at this; exact this
              have HF1 := Lib.hid (fun wq (hq : RdSS wq (.slice A d.length c) d) => HIH.out l M _ wq (by omega) (by omega) hq (by omega))
              have HF2 := Lib.hid (fun wq (hq : RdSS wq (.slice A d.length c) d) => HIH.out M r _ wq (by omega) (by omega) hq (by omega))
              have HG := Lib.hid (txt_glue (tOf d f l M) (tOf d f M r))
              have zA : (S (txT (tOf d f l M))).size ≤ 301 := by rw [S_size, txT_len]; omega
              have zB : (S (txT (tOf d f M r))).size ≤ 301 := by rw [S_size, txT_len]; omega
              generalize S (txT (tOf d f l M)) = sa at *
              generalize S (txT (tOf d f M r)) = sb at *
              have n1 : ¬ 9223372036854775807 < 1 + sa.size := by omega
              have n2 : ¬ 9223372036854775807 < 1 + sa.size + sb.size := by omega
              have n3 : ¬ 9223372036854775807 < 1 + sa.size + sb.size + 1 := by omega
              have HZ := Lib.hid hs0
              clear h1 h3 hs0
              go_wp2_with fail
              refine (HE1.out _ (HV.out.below (below_draws w _))).mono ?_; rintro e w2 ⟨rfl, q2, rfl⟩
              go_wp2_with fail
              refine (HE2.out _ (HV.out.below (below_draws w _))).mono ?_; rintro e w2 ⟨rfl, q3, rfl⟩
              clear HE1 HE2
              go_wp2_with fail
              refine (HF1.out _ (HV.out.below (below_draws w _))).mono ?_; rintro e w2 ⟨rfl, q4, rfl⟩
              go_wp2_with fail
              refine (HF2.out _ (HV.out.below (below_draws w _))).mono ?_; rintro e w2 ⟨rfl, q5, rfl⟩
              go_wp2_with fail
              go_ret
              exact ⟨ret_txt (by rw [HT.out]; exact HG.out), _, rfl⟩
        · have HT := Lib.hid (show tOf d (f + 1) l r = .lf by
            have := apx_miss hlt HP.out
            show (match apx d l r with | none => Tr.lf | some m => Tr.nd (tOf d f l m) (tOf d f m r)) = _
            rw [this])
          go_wp2_with fail
          go_ret
          exact ⟨by rw [HT.out]; rfl, _, rfl⟩
/-- what BinaryOfTriangles returns -/
def btR (n : Int) (d : List (List Int)) : List UInt8 × Bool := if TriP n d then (txT (tOf d 10 0 (n - 1)), true) else ([], false)
set_option maxHeartbeats 1000000 in
theorem implBinaryOfTriangles_any (n : Int) (v : Value) (d : List (List Int)) (w : World) (hv : RdSS w v d) (h64 : I64 n) :
    Calls Try.prog 148 #[.int .i64 n, v] w (RetSB w (btR n d)) := by
  have hT := implIsTriangulation_any n v d w hv h64
  obtain ⟨A, c0, rfl, hc, hll, _⟩ := id hv
  have HV := Lib.hid hv
  by_cases hP : TriP n d
  · rw [decide_eq_true hP] at hT
    have HT := Lib.hid hT
    have hn := hP.1
    have HR := Lib.hid (show btR n d = (txT (tOf d 10 0 (n - 1)), true) by unfold btR; rw [if_pos hP])
    have HSZ := Lib.hid (tree_size hP)
    have H2 := Lib.hid hP.two
    have ew : IntKind.i64.wrap (n - 1) = n - 1 := IntWalk.i64_in _ (by omega)
    clear hP hT hv
    go_enter Try.func148, Try.ntmps148
    go_wp2_with fail
    refine HT.out.mono ?_; clear HT; rintro e w1 ⟨rfl, q, rfl⟩
    have HTR := Lib.hid (treeOf_any n d H2.out 10 0 (n - 1) _ (w.drewN q) (by omega) (by omega) (by omega) (HV.out.below (below_draws w q)))
    go_wp2_with fail
    refine HTR.out.mono ?_; clear HTR; rintro e w2 ⟨tv, rfl, tt, b2⟩
    have B2 : Below w.heap.size w w2 := below_then (below_draws w q) b2
    have HTX := Lib.hid (text_any _ tv w2 tt (by have := HSZ.out; omega))
    clear tt b2
    go_wp2_with fail
    refine HTX.out.mono ?_; clear HTX; rintro e w3 ⟨rfl, q3, rfl⟩
    go_wp2_with fail
    go_ret2
    exact RetSB.mk HR.out rfl (below_then B2 (below_draws _ _))
  · rw [decide_eq_false hP] at hT
    have HT := Lib.hid hT
    have HR := Lib.hid (show btR n d = ([], false) by unfold btR; rw [if_neg hP])
    clear hP hT hv
    go_enter Try.func148, Try.ntmps148
    go_wp2_with fail
    refine HT.out.mono ?_; clear HT; rintro e w1 ⟨rfl, q0, rfl⟩
    go_wp2_with fail
    go_ret2
    exact RetSB.mk HR.out rfl (below_draws w q0)
set_option maxHeartbeats 1000000 in
theorem specBinaryOfTriangles_any (n : Int) (v : Value) (d : List (List Int)) (w : World) (hv : RdSS w v d) (h64 : I64 n) :
    Calls Try.prog 155 #[.int .i64 n, v] w (RetSB w (btR n d)) := by
  have hT := specIsTriangulation_any n v d w hv h64
  obtain ⟨A, c0, rfl, hc, hll, _⟩ := id hv
  have HV := Lib.hid hv
  by_cases hP : TriP n d
  · rw [decide_eq_true hP] at hT
    have HT := Lib.hid hT
    have hn := hP.1
    have HR := Lib.hid (show btR n d = (txT (tOf d 10 0 (n - 1)), true) by unfold btR; rw [if_pos hP])
    have HSZ := Lib.hid (tree_size hP)
    have H2 := Lib.hid hP.two
    have ew : IntKind.i64.wrap (n - 1) = n - 1 := IntWalk.i64_in _ (by omega)
    clear hP hT hv
    go_enter Try.func155, Try.ntmps155
    go_wp2_with fail
    refine HT.out.mono ?_; clear HT; rintro e w1 ⟨rfl, q, rfl⟩
    have HTR := Lib.hid (l7Tree_any n d H2.out hn 10 0 (n - 1) _ (w.drewN q) (by omega) (by omega) (HV.out.below (below_draws w q)) (by have := HSZ.out; omega))
    go_wp2_with fail
    refine HTR.out.mono ?_; clear HTR; rintro e w2 ⟨rfl, q2, rfl⟩
    go_wp2_with fail
    go_ret2
    exact RetSB.mk HR.out rfl (below_draws w _)
  · rw [decide_eq_false hP] at hT
    have HT := Lib.hid hT
    have HR := Lib.hid (show btR n d = ([], false) by unfold btR; rw [if_neg hP])
    clear hP hT hv
    go_enter Try.func155, Try.ntmps155
    go_wp2_with fail
    refine HT.out.mono ?_; clear HT; rintro e w1 ⟨rfl, q0, rfl⟩
    go_wp2_with fail
    go_ret2
    exact RetSB.mk HR.out rfl (below_draws w q0)
end Go.Proofs.Ytnkkgfeegaiakaa
