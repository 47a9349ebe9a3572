/- Plain words on words of letters u and d: the height behind each letter, and paths. No condition. -/
import Derived.Test.YtnkkgfeegaiakaaBase
namespace Go.Proofs.Ytnkkgfeegaiakaa
open Go.RowKit
/-- the letters of a text -/
def L (s : ByteArray) : List UInt8 := s.data.toList
theorem L_len (s : ByteArray) : (L s).length = s.size := by simp [L]
theorem L_get (s : ByteArray) (k : Nat) (h : k < s.size) : (L s)[k]'(by rw [L_len]; exact h) = s[k] := rfl
/-- the height behind one letter more, if there is any -/
def stepD (h : Option Nat) (c : UInt8) : Option Nat :=
  match h with
  | none => none
  | some h => if c.toNat = 117 then some (h + 1) else if c.toNat = 100 then (if h = 0 then none else some (h - 1)) else none
def scan (l : List UInt8) : Option Nat := l.foldl stepD (some 0)
def DyckP (l : List UInt8) : Prop := l.length ≤ 16 ∧ scan l = some 0
instance (l : List UInt8) : Decidable (DyckP l) := by unfold DyckP; exact inferInstance
theorem scan_none (l : List UInt8) : l.foldl stepD none = none := by
  induction l with
  | nil => rfl
  | cons c l ih => exact ih
theorem scan_append (a b : List UInt8) : scan (a ++ b) = b.foldl stepD (scan a) := by simp [scan, List.foldl_append]
theorem scan_succ (l : List UInt8) (k : Nat) (h : k < l.length) : scan (l.take (k + 1)) = stepD (scan (l.take k)) l[k] := by
  rw [List.take_succ_eq_append_getElem h, scan_append]; rfl
theorem scan_stop {l : List UInt8} {k : Nat} (h : scan (l.take k) = none) : scan l = none := by
  rw [← List.take_append_drop k l, scan_append, h, scan_none]
theorem scan_all {s : ByteArray} {k t : Nat} (hk : s.size ≤ k) (h : scan ((L s).take k) = some t) : scan (L s) = some t := by
  rwa [List.take_of_length_le (by rw [L_len]; exact hk)] at h
theorem scan_up {s : ByteArray} {k t : Nat} (hk : k < s.size) (h : scan ((L s).take k) = some t) (hu : s[k].toNat = 117) : scan ((L s).take (k + 1)) = some (t + 1) := by
  rw [scan_succ _ _ (by rw [L_len]; exact hk), h, L_get s k hk]; simp [stepD, hu]
theorem scan_down {s : ByteArray} {k t : Nat} (hk : k < s.size) (h : scan ((L s).take k) = some t) (hd : s[k].toNat = 100) (ht : t ≠ 0) : scan ((L s).take (k + 1)) = some (t - 1) := by
  rw [scan_succ _ _ (by rw [L_len]; exact hk), h, L_get s k hk]; simp [stepD, hd, ht]
theorem scan_fall {s : ByteArray} {k : Nat} (hk : k < s.size) (h : scan ((L s).take k) = some 0) (hd : s[k].toNat = 100) : scan (L s) = none := by
  apply scan_stop (k := k + 1)
  rw [scan_succ _ _ (by rw [L_len]; exact hk), h, L_get s k hk]; simp [stepD, hd]
theorem scan_other {s : ByteArray} {k t : Nat} (hk : k < s.size) (h : scan ((L s).take k) = some t) (hu : ¬ s[k].toNat = 117) (hd : ¬ s[k].toNat = 100) : scan (L s) = none := by
  apply scan_stop (k := k + 1)
  rw [scan_succ _ _ (by rw [L_len]; exact hk), h, L_get s k hk]; simp [stepD, hu, hd]
theorem DyckP.not_of {l : List UInt8} (h : scan l = none) : ¬ DyckP l := fun hd => by rw [hd.2] at h; cases h
theorem dyck_at_end {s : ByteArray} {k t : Nat} (hk : s.size ≤ k) (h : scan ((L s).take k) = some t) : DyckP (L s) ↔ (t = 0 ∧ s.size ≤ 16) := by
  have h := scan_all hk h
  unfold DyckP
  rw [h, L_len]
  constructor
  · rintro ⟨h1, h2⟩; injection h2 with h2; exact ⟨h2, h1⟩
  · rintro ⟨h1, h2⟩; exact ⟨h2, by rw [h1]⟩
/-- the heights at the first k + 1 places -/
def hN (l : List UInt8) (k : Nat) : Nat := (scan (l.take k)).getD 0
def hL (l : List UInt8) (k : Nat) : List Int := (List.range (k + 1)).map fun (i : Nat) => ((hN l i : Nat) : Int)
theorem hL_len (l : List UInt8) (k : Nat) : (hL l k).length = k + 1 := by simp [hL]
theorem hL_zero (l : List UInt8) : hL l 0 = [0] := rfl
theorem hL_succ (l : List UInt8) (k : Nat) : hL l (k + 1) = hL l k ++ [((hN l (k + 1) : Nat) : Int)] := by simp [hL, List.range_succ]
theorem hN_of {l : List UInt8} {k t : Nat} (h : scan (l.take k) = some t) : hN l k = t := by simp [hN, h]
theorem hL_step_up {s : ByteArray} {w w1 : World} {k t : Nat} {v' : Value} (hk : k < s.size) (h : scan ((L s).take k) = some t) (hu : s[k].toNat = 117) (ho : OwI w1 w.heap.size v' (hL (L s) k ++ [((t : Int) + 1)])) :
    scan ((L s).take (k + 1)) = some (t + 1) ∧ OwI w1 w.heap.size v' (hL (L s) (k + 1)) := by
  have h1 := scan_up hk h hu
  refine ⟨h1, ?_⟩
  rw [hL_succ, hN_of h1]
  exact ho
theorem hL_step_down {s : ByteArray} {w w1 : World} {k t : Nat} {v' : Value} (hk : k < s.size) (h : scan ((L s).take k) = some t) (hd : s[k].toNat = 100) (ht : t ≠ 0) (ho : OwI w1 w.heap.size v' (hL (L s) k ++ [((t : Int) - 1)])) :
    scan ((L s).take (k + 1)) = some (t - 1) ∧ OwI w1 w.heap.size v' (hL (L s) (k + 1)) := by
  have h1 := scan_down hk h hd ht
  refine ⟨h1, ?_⟩
  rw [hL_succ, hN_of h1, show ((t - 1 : Nat) : Int) = (t : Int) - 1 from by omega]
  exact ho
end Go.Proofs.Ytnkkgfeegaiakaa
