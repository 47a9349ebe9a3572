/- Contracts of DepthOf at a path's brackets, the program's and the reference's. Condition: the word is a path's brackets. -/
import Derived.Test.YtnkkgfeegaiakaaPathBr
namespace Go.Proofs.Ytnkkgfeegaiakaa
open Go.RowKit
/-- the greatest height ahead of a place -/
def mxN (l : List UInt8) : Nat → Nat
  | 0 => 0
  | k + 1 => max (mxN l k) (hN l k)
def depthV (l : List UInt8) : Int := ((mxN l (l.length + 1) : Nat) : Int)
theorem mxN_succ (l : List UInt8) (k : Nat) : mxN l (k + 1) = max (mxN l k) (hN l k) := rfl
set_option maxHeartbeats 1000000 in
theorem specDepthOf_any (b : ByteArray) (l : List UInt8) (w : World) (hb : L b = brk l) (hp : DyckP l) :
    Calls Try.prog 58 #[.string b] w fun e w' => e = .returned (.int .i64 (depthV l)) ∧ Below w.heap.size w w' := by
  have HE := specPathOfBrackets_any b l w hb hp
  have hl16 := hp.1
  have HH : Hid (∀ wq, Calls Try.prog 193 #[.string (S l)] wq (RetI wq (hL l l.length))) := Lib.hid (fun wq => by have h := specHeightsOf_any (S l) wq (by rw [S_size]; omega); rw [L_S, hoR_yes hp] at h; exact h)
  have hrl := hL_len l l.length
  obtain ⟨n, hn⟩ : ∃ n, n = l.length := ⟨_, rfl⟩
  have HV := Lib.hid (show depthV l = ((mxN l (n + 1) : Nat) : Int) by rw [hn]; rfl)
  have HK := Lib.hid (fun (k : Nat) (hk : k ≤ n) => hN_le l hp k (by omega))
  rw [← hn] at HH hrl hl16
  have HRL := Lib.hid hrl
  have HN0 := Lib.hid hn
  clear hp hb hrl hn
  go_enter Try.func58, Try.ntmps58
  go_wp2_with fail
  refine HE.mono ?_; rintro e w1 ⟨rfl, b1⟩
  go_wp2_with fail
  refine (HH.out _).mono ?_; rintro e w2 ⟨r, rfl, o2, b2⟩
  have B2 := below_then b1 b2
  obtain ⟨g, cap, rfl⟩ : ∃ g cap, r = .slice (some ⟨g, 0, none⟩) (n + 1) cap := by
    rcases o2.shape with ⟨_, e⟩ | ⟨g, cap, e, _, _⟩
    · have := HRL.out; rw [e] at this; simp at this
    · exact ⟨g, cap, by rw [e, HRL.out]⟩
  go_wp2_with fail
  go_loop [6, 7] (fun x i => ∃ k : Nat, k ≤ n + 1 ∧ i = .int .i64 k ∧ x = .int .i64 ((mxN l k : Nat) : Int)) (fun _ i => n + 1 - (intOf i).toNat)
  case atStart => exact ⟨0, by omega, rfl, rfl⟩
  case round =>
    obtain ⟨k, hk, rfl, rfl⟩ := hrel
    by_cases hlt : k < n + 1
    · have c1 := o2.cellAt k (by rw [HRL.out]; exact hlt)
      rw [hL_at] at c1
      have HS := Lib.hid (mxN_succ l k)
      go_wp2_with fail
      go_round
      case rel => exact ⟨k + 1, by omega, by go_num, by rw [HS.out]; congr 1; omega⟩
      case measure => simp [intOf]; omega
    · have hke : k = n + 1 := by omega
      subst hke
      go_wp2_with fail
      go_ret
      exact ⟨ret_int HV.out.symm, B2⟩
set_option maxHeartbeats 1000000 in
theorem implDepthOf_any (b : ByteArray) (l : List UInt8) (w : World) (hb : L b = brk l) (hp : DyckP l) :
    Calls Try.prog 57 #[.string b] w fun e w' => e = .returned (.int .i64 (depthV l)) ∧ Below w.heap.size w w' := by
  have HE := implPathOfBrackets_any b l w hb hp
  have hl16 := hp.1
  have HH : Hid (∀ wq, Calls Try.prog 192 #[.string (S l)] wq (RetI wq (hL l l.length))) := Lib.hid (fun wq => by have h := implHeightsOf_any (S l) wq; rw [L_S, hoR_yes hp] at h; exact h)
  have hrl := hL_len l l.length
  obtain ⟨n, hn⟩ : ∃ n, n = l.length := ⟨_, rfl⟩
  have HV := Lib.hid (show depthV l = ((mxN l (n + 1) : Nat) : Int) by rw [hn]; rfl)
  have HK := Lib.hid (fun (k : Nat) (hk : k ≤ n) => hN_le l hp k (by omega))
  rw [← hn] at HH hrl hl16
  have HRL := Lib.hid hrl
  have HN0 := Lib.hid hn
  clear hp hb hrl hn
  go_enter Try.func57, Try.ntmps57
  go_wp2_with fail
  refine HE.mono ?_; rintro e w1 ⟨rfl, b1⟩
  go_wp2_with fail
  refine (HH.out _).mono ?_; rintro e w2 ⟨r, rfl, o2, b2⟩
  have B2 := below_then b1 b2
  obtain ⟨g, cap, rfl⟩ : ∃ g cap, r = .slice (some ⟨g, 0, none⟩) (n + 1) cap := by
    rcases o2.shape with ⟨_, e⟩ | ⟨g, cap, e, _, _⟩
    · have := HRL.out; rw [e] at this; simp at this
    · exact ⟨g, cap, by rw [e, HRL.out]⟩
  go_wp2_with fail
  go_loop [5, 18] (fun x i => ∃ k : Nat, k ≤ n + 1 ∧ i = .int .i64 k ∧ x = .int .i64 ((mxN l k : Nat) : Int)) (fun _ i => n + 1 - (intOf i).toNat)
  case atStart => exact ⟨0, by omega, rfl, rfl⟩
  case round =>
    obtain ⟨k, hk, rfl, rfl⟩ := hrel
    by_cases hlt : k < n + 1
    · have c1 := o2.cellAt k (by rw [HRL.out]; exact hlt)
      rw [hL_at] at c1
      have HS := Lib.hid (mxN_succ l k)
      go_wp2_with fail
      go_round
      case rel => exact ⟨k + 1, by omega, by go_num, by rw [HS.out]; congr 1; omega⟩
      case measure => simp [intOf]; omega
    · have hke : k = n + 1 := by omega
      subst hke
      go_wp2_with fail
      go_ret
      exact ⟨ret_int HV.out.symm, B2⟩
end Go.Proofs.Ytnkkgfeegaiakaa
