/- Contracts of the draws of trees and of triangulations. No condition. -/
import Derived.Test.YtnkkgfeegaiakaaGround2
import Derived.Test.YtnkkgfeegaiakaaBrShift
import Derived.Test.YtnkkgfeegaiakaaTriGul
import Derived.Test.YtnkkgfeegaiakaaTreeText
namespace Go.Proofs.Ytnkkgfeegaiakaa
open Go.RowKit
/-- a path is parted by its first return -/
def tCt (l : List UInt8) : Bool := l.isEmpty || (fun (j : Nat) => decide (DyckP ((l.drop 1).take (j - 1))) && decide (DyckP (l.drop (j + 1)))) ((prt l).getD 0 0).toNat
set_option maxRecDepth 100000 in
theorem tCt_all : tstAll tCt 6 = true := by decide +kernel
theorem cut_facts {l : List UInt8} (hd : DyckP l) (hl : l.length ≤ 12) (h0 : l ≠ []) {j : Nat} (hj : (prt l).getD 0 0 = (j : Int)) : DyckP ((l.drop 1).take (j - 1)) ∧ DyckP (l.drop (j + 1)) := by
  have h := tstAll_sound tCt_all hd hl
  unfold tCt at h
  rw [hj, Int.toNat_natCast] at h
  simp only [Bool.or_eq_true, Bool.and_eq_true, decide_eq_true_eq] at h
  rcases h with h | h
  · exact absurd (List.isEmpty_iff.1 h) h0
  · exact h
def RetBin (w : World) (n : Nat) (e : Ending) (w' : World) : Prop := ∃ T : Tr, e = .returned (.string (S (txT T))) ∧ 2 * T.size = n ∧ ∃ q, w' = w.drewN q
set_option maxRecDepth 8000 in
set_option maxHeartbeats 2000000 in
theorem l6Binary_any : ∀ (n : Nat) (l : List UInt8) (w : World), l.length ≤ n → DyckP l → l.length ≤ 12 →
    Calls Try.prog 244 #[.string (S l)] w (RetBin w l.length) := by
  intro n
  induction n with
  | zero =>
    intro l w hn hd hl
    obtain rfl : l = [] := List.eq_nil_of_length_eq_zero (by omega)
    have f0 : (S []).toList.isEmpty = true := by rw [to_L, L_S]; rfl
    have hs0 : (S []).size = 0 := by rw [S_size]; rfl
    generalize S [] = t at *
    go_enter Try.func244, Try.ntmps244
    go_wp2_with fail
    go_ret
    exact ⟨.lf, rfl, rfl, 0, rfl⟩
  | succ n ih =>
    intro l w hn hd hl
    have HIH := Lib.hid ih
    clear ih
    by_cases h0 : l = []
    · subst h0
      have f0 : (S []).toList.isEmpty = true := by rw [to_L, L_S]; rfl
      generalize S [] = t at *
      go_enter Try.func244, Try.ntmps244
      go_wp2_with fail
      go_ret
      exact ⟨.lf, rfl, rfl, 0, rfl⟩
    · obtain ⟨j, hj, ha, hjl, hj0⟩ := first_arc hd h0
      obtain ⟨hdA, hdB⟩ := cut_facts hd hl h0 hj
      have HC : Hid (∀ wq, Calls Try.prog 190 #[.string (S l)] wq fun e w' => e = .returned (.int .i64 (j : Int)) ∧ wq = w') := Lib.hid (fun wq => l2Cut_any (S l) j wq (by rw [L_S]; exact hd) (by rw [L_S]; exact ha))
      have hx1 : (S l).extract 1 j = S ((l.drop 1).take (j - 1)) := by rw [S_of (L_cut (S l) 1 j), L_S]
      have hx2 : (S l).extract (j + 1) (S l).size = S (l.drop (j + 1)) := by
        rw [S_of (L_cut (S l) (j + 1) (S l).size), L_S, S_size, List.take_of_length_le (by rw [List.length_drop]; exact Nat.le_refl _)]
      have hlA : ((l.drop 1).take (j - 1)).length = j - 1 := by rw [List.length_take, List.length_drop]; omega
      have hlB : (l.drop (j + 1)).length = l.length - (j + 1) := List.length_drop
      have HA := Lib.hid (fun wq => HIH.out ((l.drop 1).take (j - 1)) wq (by omega) hdA (by omega))
      have HB := Lib.hid (fun wq => HIH.out (l.drop (j + 1)) wq (by omega) hdB (by omega))
      rw [← hx1, hlA] at HA
      rw [← hx2, hlB] at HB
      have f0 : (S l).toList.isEmpty = false := by
        rw [to_L, L_S]
        cases l with
        | nil => exact absurd rfl h0
        | cons c l => rfl
      have hts : (S l).size = l.length := S_size l
      have HL := Lib.hid (show (j - 1) + (l.length - (j + 1)) + 2 = l.length by omega)
      have hjb : j < (S l).size := by omega
      have hjb2 : j ≤ (S l).size := by omega
      have hj1 : 1 ≤ j := hj0
      have hb12 : (S l).size ≤ 12 := by omega
      generalize S l = t at *
      have p1 : IntKind.i64.wrap ((j : Int) + 1) = (j : Int) + 1 := IntWalk.i64_in _ (by omega)
      have p2 : ((j : Int) + 1).toNat = j + 1 := by omega
      have p3 : (0 : Int) ≤ (j : Int) + 1 := by omega
      have p4 : (j : Int) + 1 ≤ (t.size : Int) := by omega
      have p5 : (1 : Int) ≤ (j : Int) := by omega
      have p6 : (j : Int) ≤ (t.size : Int) := by omega
      clear h0 hj ha hjl hj0 hdA hdB hx1 hx2 hlA hlB hts hd
      go_enter Try.func244, Try.ntmps244
      go_wp2_with fail
      refine (HC.out _).mono ?_; rintro e w1 ⟨rfl, rfl⟩
      go_wp2_with fail
      go_region_law (first
        | (try go_simp
           go_at_call_of 244 (Value.string (t.extract 1 j))
           have H1 := HA.out w.drew
           refine H1.mono ?_
           clear H1
           rintro e w3 ⟨T1, rfl, h1, q3, rfl⟩
           have z1 : (S (txT T1)).size ≤ 50 := by rw [S_size, txT_len]; omega
           have n1 : ¬ 9223372036854775807 < 1 + (S (txT T1)).size := by omega
           have HS1 := Lib.hid h1
           clear h1)
        | (try go_simp
           go_at_call 244
           have H1 := HB.out (w.drewN (1 + q3))
           refine H1.mono ?_
           clear H1
           rintro e w4 ⟨T2, rfl, h2, q4, rfl⟩
           have z2 : (S (txT T2)).size ≤ 50 := by rw [S_size, txT_len]; omega
           have n2 : ¬ 9223372036854775807 < 1 + (S (txT T1)).size + (S (txT T2)).size := by omega
           have n3 : ¬ 9223372036854775807 < 1 + (S (txT T1)).size + (S (txT T2)).size + 1 := by omega
           have HS2 := Lib.hid h2
           clear h2))
      all_goals (
        go_wp2_with fail
        go_ret
        exact ⟨.nd T1 T2, ret_txt (txt_glue T1 T2), by have h1 := HS1.out; have h2 := HS2.out; have h3 := HL.out; show 2 * (T1.size + T2.size + 1) = l.length; omega, _, rfl⟩)
def eight : List ByteArray := [⟨#[]⟩, ⟨#[46]⟩, ⟨#[40, 46, 46, 41]⟩, ⟨#[46, 46]⟩, ⟨#[40, 46, 41]⟩, ⟨#[40, 46, 46, 46, 41]⟩, ⟨#[40, 46, 46]⟩, ⟨#[40, 46, 46, 41, 41]⟩]
theorem eight_le : ∀ x ∈ eight, x.size ≤ 20 := by decide
set_option maxRecDepth 8000 in
set_option maxHeartbeats 1000000 in
theorem l6Any_any (cb : Nat) (bs : List UInt8) (w : World) (hc : CurAt w cb bs) : Calls Try.prog 221 #[.pointer (some ⟨cb, 0, none⟩)] w (RetT w cb bs 20) := by
  have h8 : eight.length = 8 := rfl
  have HL := Lib.hid eight_le
  go_enter Try.func221, Try.ntmps221
  go_wp2_with fail
  refine (l2PathD_any cb bs w hc).mono ?_; rintro e w1 ⟨l, rfl, hd, hl, c1, g1⟩
  go_wp2_with fail
  refine (l6Binary_any l.length l w1 (Nat.le_refl _) hd hl).mono ?_; rintro e w2 ⟨T, rfl, hT, q, rfl⟩
  have c2 := c1.below (below_draws w1 q)
  have G2 := grown_trans_row g1 (grown_below (below_draws w1 q))
  have hs : (S (txT T)).size ≤ 19 := by rw [S_size, txT_len]; omega
  clear c1 g1 hd hT hc
  generalize w1.drewN q = w2 at *
  generalize S (txT T) = s at *
  go_wp2_with fail
  refine (l1Below_any cb 12 bs w2 c2 (by omega) (by omega)).mono ?_; rintro e w3 ⟨v, rfl, hv, c3, g3⟩
  have G3 := grown_trans_row G2 g3
  clear c2 G2 g3
  by_cases v0 : v = 0
  · have f1 : ((v : Int) == 0) = true := beq_iff_eq.2 (by omega)
    clear v0
    go_wp2_with fail
    refine (l1SpoilM_any 19 cb (by omega) (by omega) bs w3 c3 s hs).mono ?_; rintro e w4 ⟨t, rfl, ht, c4, g4⟩
    go_wp2_with fail
    go_ret
    exact ⟨t, rfl, ht, c4, grown_trans_row G3 g4⟩
  · have f0 : ((v : Int) == 0) = false := beq_eq_false_iff_ne.2 (by omega)
    by_cases v1 : v = 1
    · have f1 : ((v : Int) == 1) = true := beq_iff_eq.2 (by omega)
      clear v0 v1
      have hS := (OwS.lit w3 eight w3.heap.size (Nat.le_refl _) (by rw [h8]; omega)).rd
      have c4 := c3.grown (row := none) (World.grownBy_alloc w3 (.cells (eight.map Value.string).toArray 9) none) (fun r e => by cases e)
      have hc2 := c3.lt
      have HP := Lib.hid (l1Pick_any cb bs _ c4 _ eight hS (fun e => by simp [Value.ownBlock] at e; omega) (by rw [h8]; omega) (by rw [h8]; omega))
      have HG := Lib.hid (grown_trans_row G3 (grown_alloc w3 (.cells (eight.map Value.string).toArray 9) (some cb)))
      clear hS c4
      go_wp2_with fail
      refine HP.out.mono ?_; rintro e w5 ⟨t, ht, rfl, c5, g5⟩
      go_wp2_with fail
      go_ret
      exact ⟨t, rfl, HL.out t ht, c5, grown_trans_row HG.out g5⟩
    · have f1 : ((v : Int) == 1) = false := beq_eq_false_iff_ne.2 (by omega)
      clear v0 v1
      go_wp2_with fail
      go_ret
      exact ⟨s, rfl, by omega, c3, G3⟩
theorem DrawTriangulationOf_any (v : Value) (bs : List UInt8) (w : World) (hv : RdR bf w v bs) : Calls Try.prog 146 #[v] w (RetXT w fun s => s.size ≤ 20) := by
  go_enter Try.func146, Try.ntmps146
  go_wp2_with fail
  refine (l1New_any v bs w hv).mono ?_; rintro e w1 ⟨rfl, c1, b1⟩
  go_wp2_with fail
  refine (l6Any_any w.heap.size bs w1 c1).mono ?_; rintro e w2 ⟨s, rfl, hx, c2, g2⟩
  go_wp2_with fail
  go_ret
  exact ⟨s, rfl, hx, below_cur b1 g2⟩
end Go.Proofs.Ytnkkgfeegaiakaa
