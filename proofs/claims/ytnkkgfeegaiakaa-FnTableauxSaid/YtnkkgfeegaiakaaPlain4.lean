/- Plain words on words of letters u and d: the valleys' places. No condition. -/
import Derived.Test.YtnkkgfeegaiakaaGround
namespace Go.Proofs.Ytnkkgfeegaiakaa
/-- the place of a valley, else 0 -/
def majG (l : List UInt8) (i : Nat) : Nat := if 1 ≤ i ∧ (l.getD (i - 1) 0).toNat = 100 ∧ (l.getD i 0).toNat = 117 then i else 0
def majV (l : List UInt8) : Int := if DyckP l then (sumTo l.length (majG l) : Nat) else -1
theorem majG_start (l : List UInt8) : sumTo (0 + 1) (majG l) = 0 := by simp [sumTo, majG]
theorem L_getD {s : ByteArray} {k : Nat} (h : k < s.size) : (L s).getD k 0 = s[k] := by
  rw [getD_of (by rw [L_len]; exact h), L_get s k h]
theorem majG_hit {s : ByteArray} {k : Nat} (h : k + 1 < s.size) (hd : (s[k]'(by omega)).toNat = 100) (hu : s[k + 1].toNat = 117) : majG (L s) (k + 1) = k + 1 := by
  unfold majG
  rw [Nat.add_sub_cancel, L_getD h, L_getD (by omega), if_pos ⟨by omega, hd, hu⟩]
theorem majG_miss {s : ByteArray} {k : Nat} (h : k + 1 < s.size) (hn : ¬ ((s[k]'(by omega)).toNat = 100 ∧ s[k + 1].toNat = 117)) : majG (L s) (k + 1) = 0 := by
  unfold majG
  rw [Nat.add_sub_cancel, L_getD h, L_getD (by omega), if_neg (fun e => hn e.2)]
end Go.Proofs.Ytnkkgfeegaiakaa
