/- Contracts of the draws of brackets. No condition. -/
import Derived.Test.YtnkkgfeegaiakaaDrawD
import Derived.Test.YtnkkgfeegaiakaaPathBr2
namespace Go.Proofs.Ytnkkgfeegaiakaa
open Go.RowKit
def bad3 : List ByteArray := [⟨#[41, 40]⟩, ⟨#[40]⟩, ⟨#[40, 120, 41]⟩]
def five : List ByteArray := [⟨#[]⟩, ⟨#[41, 40]⟩, ⟨#[40]⟩, ⟨#[40, 120, 41]⟩, ⟨#[40, 41, 40, 41]⟩]
/-- the texts that are drawn for brackets -/
def BrT (s : ByteArray) : Prop := (∃ l, L s = brk l ∧ DyckP l ∧ l.length ≤ 12) ∨ (¬ BrP (L s) ∧ s.size ≤ 3)
theorem five_br : ∀ x ∈ five, BrT x := by
  intro x hx
  simp only [five, List.mem_cons, List.not_mem_nil, or_false] at hx
  rcases hx with rfl | rfl | rfl | rfl | rfl
  · exact .inl ⟨[], rfl, by decide, by decide⟩
  · exact .inr ⟨by decide, by decide⟩
  · exact .inr ⟨by decide, by decide⟩
  · exact .inr ⟨by decide, by decide⟩
  · exact .inl ⟨[117, 100, 117, 100], by decide, by decide, by decide⟩
theorem BrT.le {s : ByteArray} (h : BrT s) : s.size ≤ 12 := by
  rcases h with ⟨l, e, _, hl⟩ | h
  · rw [brk_at e]; exact hl
  · omega
def RetBr (w : World) (cb : Nat) (bs : List UInt8) (e : Ending) (w' : World) : Prop := ∃ s : ByteArray, e = .returned (.string s) ∧ BrT s ∧ CurAt w' cb bs ∧ w.grownBy w' (some cb)
set_option maxRecDepth 8000 in
set_option maxHeartbeats 1000000 in
theorem l4Any_any (cb : Nat) (bs : List UInt8) (w : World) (hc : CurAt w cb bs) : Calls Try.prog 187 #[.pointer (some ⟨cb, 0, none⟩)] w (RetBr w cb bs) := by
  have h5 : five.length = 5 := rfl
  have HL := Lib.hid five_br
  go_enter Try.func187, Try.ntmps187
  go_wp2_with fail
  refine (l2PathD_any cb bs w hc).mono ?_; rintro e w1 ⟨l, rfl, hd, hl, c1, g1⟩
  have HD := Lib.hid hd
  have hBR := specBracketsOf_any (S l) w1 (by rw [L_S]; exact hd)
  rw [L_S] at hBR
  clear hd
  go_wp2_with fail
  refine hBR.mono ?_; rintro e w2 ⟨rfl, b2⟩
  have c2 := c1.below b2
  have G2 := grown_trans_row g1 (grown_below b2)
  clear hBR c1 g1 b2
  go_wp2_with fail
  refine (l1Once_any cb 10 bs w2 c2 (by omega) (by omega)).mono ?_; rintro e w3 ⟨z, rfl, c3, g3⟩
  have G3 := grown_trans_row G2 g3
  clear c2 G2 g3
  rcases z with _ | _
  · go_wp2_with fail
    go_ret
    exact ⟨_, rfl, .inl ⟨l, L_S _, HD.out, hl⟩, c3, G3⟩
  · have hS := (OwS.lit w3 five w3.heap.size (Nat.le_refl _) (by rw [h5]; omega)).rd
    have c4 := c3.grown (row := none) (World.grownBy_alloc w3 (.cells (five.map Value.string).toArray 9) none) (fun r e => by cases e)
    have hc3 := c3.lt
    have HP := Lib.hid (l1Pick_any cb bs _ c4 _ five hS (fun e => by simp [Value.ownBlock] at e; omega) (by rw [h5]; omega) (by rw [h5]; omega))
    have HG := Lib.hid (grown_trans_row G3 (grown_alloc w3 (.cells (five.map Value.string).toArray 9) (some cb)))
    clear hS c4
    go_wp2_with fail
    refine HP.out.mono ?_; rintro e w5 ⟨t, ht, rfl, c5, g5⟩
    go_wp2_with fail
    go_ret
    exact ⟨t, rfl, HL.out t ht, c5, grown_trans_row HG.out g5⟩
theorem DrawShiftBrackets_any (v : Value) (bs : List UInt8) (w : World) (hv : RdR bf w v bs) : Calls Try.prog 46 #[v] w (RetXT w BrT) := by
  go_enter Try.func46, Try.ntmps46
  go_wp2_with fail
  refine (l1New_any v bs w hv).mono ?_; rintro e w1 ⟨rfl, c1, b1⟩
  go_wp2_with fail
  refine (l4Any_any w.heap.size bs w1 c1).mono ?_; rintro e w2 ⟨s, rfl, hx, c2, g2⟩
  go_wp2_with fail
  go_ret
  exact ⟨s, rfl, hx, below_cur b1 g2⟩
theorem DrawPathOfBrackets_any (v : Value) (bs : List UInt8) (w : World) (hv : RdR bf w v bs) : Calls Try.prog 56 #[v] w (RetXT w BrT) := by
  go_enter Try.func56, Try.ntmps56
  go_wp2_with fail
  refine (l1New_any v bs w hv).mono ?_; rintro e w1 ⟨rfl, c1, b1⟩
  go_wp2_with fail
  refine (l4Any_any w.heap.size bs w1 c1).mono ?_; rintro e w2 ⟨s, rfl, hx, c2, g2⟩
  go_wp2_with fail
  go_ret
  exact ⟨s, rfl, hx, below_cur b1 g2⟩
theorem DrawPartnerOf_any (v : Value) (bs : List UInt8) (w : World) (hv : RdR bf w v bs) : Calls Try.prog 43 #[v] w fun e w' => ∃ s i, e = .returned (.tuple #[.string s, .int .i64 i]) ∧ BrT s ∧ (-1 ≤ i ∧ i ≤ (s.size : Int)) ∧ Below w.heap.size w w' := by
  go_enter Try.func43, Try.ntmps43
  go_wp2_with fail
  refine (l1New_any v bs w hv).mono ?_; rintro e w1 ⟨rfl, c1, b1⟩
  go_wp2_with fail
  refine (l4Any_any w.heap.size bs w1 c1).mono ?_; rintro e w2 ⟨s, rfl, hx, c2, g2⟩
  have hs12 := hx.le
  have HX := Lib.hid hx
  have HB := l1Below_any w.heap.size (s.size + 2) bs w2 c2 (by omega) (by omega)
  rw [show ((s.size + 2 : Nat) : Int) = (s.size : Int) + 2 by omega] at HB
  have G2 := below_cur b1 g2
  clear hx
  go_wp2_with fail
  refine HB.mono ?_; rintro e w3 ⟨x, rfl, hx, c3, g3⟩
  go_wp2_with fail
  go_ret2
  exact ⟨s, _, rfl, HX.out, ⟨by omega, by omega⟩, below_cur G2 g3⟩
end Go.Proofs.Ytnkkgfeegaiakaa
