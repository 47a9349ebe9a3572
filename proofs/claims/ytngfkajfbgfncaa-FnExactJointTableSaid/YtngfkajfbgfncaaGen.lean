/- All paths of a given length, one after the other: what a test finds true of each of them is true of every path. No condition. -/
import Derived.Test.YtngfkajfbgfncaaGround
namespace Go.Proofs.Ytngfkajfbgfncaa
def cU : UInt8 := ⟨⟨⟨117, by decide⟩⟩⟩
def cD : UInt8 := ⟨⟨⟨100, by decide⟩⟩⟩
theorem cU_eq {c : UInt8} (h : c.toNat = 117) : c = cU := UInt8.toNat_inj.1 (by rw [h]; rfl)
theorem cD_eq {c : UInt8} (h : c.toNat = 100) : c = cD := UInt8.toNat_inj.1 (by rw [h]; rfl)
/-- the test of every word of n letters that leads from height h to height 0, behind the letters a, last one first -/
def tst (f : List UInt8 → Bool) : Nat → Nat → List UInt8 → Bool
  | 0, 0, a => f a.reverse
  | 0, _ + 1, _ => true
  | n + 1, h, a => (if h < n + 1 then tst f n (h + 1) (cU :: a) else true) && (match h with | 0 => true | h + 1 => tst f n h (cD :: a))
theorem fold_le : ∀ (l : List UInt8) (h t : Nat), l.foldl stepD (some h) = some t → h ≤ t + l.length := by
  intro l
  induction l with
  | nil => intro h t e; simp at e; omega
  | cons c l ih =>
    intro h t e
    rw [List.foldl_cons] at e
    cases hs : stepD (some h) c with
    | none => rw [hs, scan_none] at e; cases e
    | some h' =>
      rw [hs] at e
      have := ih h' t e
      rw [List.length_cons]
      simp only [stepD] at hs
      split at hs
      · injection hs with hs; omega
      · split at hs
        · split at hs
          · cases hs
          · injection hs with hs; omega
        · cases hs
theorem tst_sound (f : List UInt8 → Bool) : ∀ (l : List UInt8) (h : Nat) (a : List UInt8), tst f l.length h a = true → l.foldl stepD (some h) = some 0 → f (a.reverse ++ l) = true := by
  intro l
  induction l with
  | nil =>
    intro h a ht e
    have : h = 0 := by simpa using e
    subst this
    simpa [tst] using ht
  | cons c l ih =>
    intro h a ht e
    have hle := fold_le _ _ _ e
    rw [List.length_cons] at ht hle
    rw [List.foldl_cons] at e
    unfold tst at ht
    rw [Bool.and_eq_true] at ht
    by_cases hu : c.toNat = 117
    · have hc := cU_eq hu
      have hs : stepD (some h) c = some (h + 1) := by simp [stepD, hu]
      rw [hs] at e
      have hle2 := fold_le _ _ _ e
      rw [if_pos (by omega)] at ht
      have := ih (h + 1) (cU :: a) ht.1 e
      rw [hc]
      simpa using this
    · by_cases hd : c.toNat = 100
      · have hc := cD_eq hd
        cases h with
        | zero =>
          have hs : stepD (some 0) c = none := by simp [stepD, hd]
          rw [hs, scan_none] at e; cases e
        | succ h =>
          have hs : stepD (some (h + 1)) c = some h := by simp [stepD, hd]
          rw [hs] at e
          have := ih h (cD :: a) ht.2 e
          rw [hc]
          simpa using this
      · have hs : stepD (some h) c = none := by simp [stepD, hu, hd]
        rw [hs, scan_none] at e; cases e
/-- the test of all paths of at most m pairs of letters -/
def tstAll (f : List UInt8 → Bool) (m : Nat) : Bool := (List.range (m + 1)).all fun n => tst f (2 * n) 0 []
theorem tstAll_sound {f : List UInt8 → Bool} {m : Nat} (h : tstAll f m = true) {l : List UInt8} (hd : DyckP l) (hl : l.length ≤ 2 * m) : f l = true := by
  have hh := dyck_half hd
  have := List.all_eq_true.1 h (cu l) (by simp; omega)
  rw [hh] at this
  simpa using tst_sound f l 0 [] this hd.2
end Go.Proofs.Ytngfkajfbgfncaa
