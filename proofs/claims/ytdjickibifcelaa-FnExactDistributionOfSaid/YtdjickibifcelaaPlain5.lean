/- Plain words on parking: the first free place, the places of the cars, by the steps of the loop. No condition. -/
import Derived.Test.YtdjickibifcelaaPlain
namespace Go.Proofs.Ytdjickibifcelaa
/-- wishes of at most six cars -/
def CarOk (f : List Int) (k : Nat) : Prop := 1 ≤ f.getD k 0 ∧ f.getD k 0 ≤ f.length
instance (f : List Int) (k : Nat) : Decidable (CarOk f k) := by unfold CarOk; exact inferInstance
def CarsP (f : List Int) : Prop := f.length ≤ 6 ∧ ∀ k, k < f.length → CarOk f k
instance (f : List Int) : Decidable (CarsP f) := by unfold CarsP; exact inferInstance
theorem CarsP.not_at {f : List Int} {k : Nat} (hk : k < f.length) (h : ¬ CarOk f k) : ¬ CarsP f := fun hp => h (hp.2 k hk)
theorem CarOk.of {f : List Int} {k : Nat} (hk : k < f.length) (h1 : 1 ≤ f[k]) (h2 : f[k] ≤ f.length) : CarOk f k := by unfold CarOk; rw [getD_of hk]; exact ⟨h1, h2⟩
theorem CarOk.get {f : List Int} {k : Nat} (hk : k < f.length) (h : CarOk f k) : 1 ≤ f[k] ∧ f[k] ≤ f.length := by unfold CarOk at h; rw [getD_of hk] at h; exact h
/-- which of the numbers below n stand in a list -/
def tkL (out : List Int) (n : Nat) : List Bool := (List.range n).map fun (x : Nat) => out.contains (x : Int)
theorem tkL_len (out : List Int) (n : Nat) : (tkL out n).length = n := by simp [tkL]
theorem tkL_nil (n : Nat) : tkL [] n = List.replicate n false := by
  unfold tkL
  apply List.ext_getElem <;> simp
theorem tkL_get (out : List Int) (n x : Nat) (hx : x < (tkL out n).length) : (tkL out n)[x] = out.contains (x : Int) := by simp [tkL]
theorem tkL_set (out : List Int) (n x : Nat) : tkL (out ++ [(x : Int)]) n = (tkL out n).set x true := by
  apply List.ext_getElem
  · simp [tkL]
  · intro i h1 h2
    rw [List.getElem_set]
    simp only [tkL_get]
    by_cases h : x = i
    · subst h; simp
    · rw [if_neg h]
      simp [show (i : Int) ≠ (x : Int) from by omega]
/-- the first place from p on that is free or beyond n -/
def nf (out : List Int) (n : Nat) : Nat → Nat → Nat
  | 0, p => p
  | k + 1, p => if p ≤ n ∧ out.contains (p : Int) = true then nf out n k (p + 1) else p
theorem nf_is (out : List Int) (n : Nat) : ∀ (d fuel p j : Nat), j = p + d → d ≤ fuel → (∀ i, p ≤ i → i < j → i ≤ n ∧ out.contains (i : Int) = true) → ¬ (j ≤ n ∧ out.contains (j : Int) = true) → nf out n fuel p = j := by
  intro d
  induction d with
  | zero =>
    intro fuel p j hj hf _ hn
    obtain rfl : j = p := by omega
    cases fuel with
    | zero => rfl
    | succ k => simp only [nf]; rw [if_neg hn]
  | succ d ih =>
    intro fuel p j hj hf ha hn
    cases fuel with
    | zero => omega
    | succ k =>
      simp only [nf]
      rw [if_pos (ha p (Nat.le_refl _) (by omega))]
      exact ih k (p + 1) j (by omega) (by omega) (fun i h1 h2 => ha i (by omega) h2) hn
/-- one car parks -/
def parkStep (n : Nat) (acc : Option (List Int)) (x : Int) : Option (List Int) :=
  match acc with
  | none => none
  | some out => if nf out n (n + 1) x.toNat ≤ n then some (out ++ [((nf out n (n + 1) x.toNat : Nat) : Int)]) else none
def park (f : List Int) (k : Nat) : Option (List Int) := (f.take k).foldl (parkStep f.length) (some [])
theorem park_zero (f : List Int) : park f 0 = some [] := rfl
theorem park_succ (f : List Int) (k : Nat) (hk : k < f.length) : park f (k + 1) = parkStep f.length (park f k) f[k] := by
  unfold park
  rw [List.take_succ_eq_append_getElem hk, List.foldl_append]; rfl
theorem foldl_none (n : Nat) (l : List Int) : l.foldl (parkStep n) none = none := by
  induction l with
  | nil => rfl
  | cons x l ih => exact ih
theorem park_stop {f : List Int} {k : Nat} (h : park f k = none) : park f f.length = none := by
  unfold park at h ⊢
  rw [List.take_length]
  generalize f.length = n at h ⊢
  rw [← List.take_append_drop k f, List.foldl_append, h, foldl_none]
theorem park_full {f : List Int} {k : Nat} {out : List Int} (hk : k < f.length) (h : park f k = some out) {j : Nat} (hj : nf out f.length (f.length + 1) f[k].toNat = j) (hn : f.length < j) : park f f.length = none := by
  apply park_stop (k := k + 1)
  rw [park_succ _ _ hk, h]
  simp only [parkStep]
  rw [hj, if_neg (by omega)]
theorem park_hit {f : List Int} {k : Nat} {out : List Int} (hk : k < f.length) (h : park f k = some out) {j : Nat} (hj : nf out f.length (f.length + 1) f[k].toNat = j) (hn : j ≤ f.length) : park f (k + 1) = some (out ++ [(j : Int)]) := by
  rw [park_succ _ _ hk, h]
  simp only [parkStep]
  rw [hj, if_pos hn]
/-- the places, and whether all park -/
def placesR (f : List Int) : List Int × Bool :=
  if CarsP f then (match park f f.length with | some out => (out, true) | none => ([], false)) else ([], false)
theorem placesR_some {f out : List Int} (h : CarsP f) (hp : park f f.length = some out) : placesR f = (out, true) := by unfold placesR; rw [if_pos h, hp]
theorem placesR_none {f : List Int} (hp : park f f.length = none) : placesR f = ([], false) := by
  unfold placesR
  split
  · rw [hp]
  · rfl
theorem placesR_bad {f : List Int} (h : ¬ CarsP f) : placesR f = ([], false) := by unfold placesR; rw [if_neg h]
theorem nf_ge (out : List Int) (n : Nat) : ∀ (k p : Nat), p ≤ nf out n k p := by
  intro k
  induction k with
  | zero => intro p; exact Nat.le_refl _
  | succ k ih =>
    intro p
    simp only [nf]
    split
    · exact Nat.le_trans (by omega) (ih (p + 1))
    · exact Nat.le_refl _
theorem park_facts (f : List Int) : ∀ (k : Nat) (out : List Int), k ≤ f.length → park f k = some out → out.length = k ∧ ∀ x ∈ out, 0 ≤ x ∧ x ≤ f.length := by
  intro k
  induction k with
  | zero =>
    intro out _ h
    rw [park_zero] at h
    injection h with h
    subst h
    exact ⟨rfl, by simp⟩
  | succ k ih =>
    intro out hk h
    rw [park_succ _ _ (by omega)] at h
    cases hp : park f k with
    | none => rw [hp] at h; cases h
    | some o =>
      rw [hp] at h
      obtain ⟨h1, h2⟩ := ih o (by omega) hp
      simp only [parkStep] at h
      split at h
      · injection h with h
        subst h
        refine ⟨by simp [h1], fun x hx => ?_⟩
        rcases List.mem_append.1 hx with hx | hx
        · exact h2 x hx
        · simp at hx; subst hx; exact ⟨by omega, by omega⟩
      · cases h
/-- displacement and luck -/
def dispS (P f : List Int) (k : Nat) : Int := (List.range k).foldl (fun n i => n + P.getD i 0 - f.getD i 0) 0
theorem dispS_succ (P f : List Int) (k : Nat) : dispS P f (k + 1) = dispS P f k + P.getD k 0 - f.getD k 0 := by simp [dispS, List.range_succ]
def dispV (f : List Int) : Int := if (placesR f).2 = true then dispS (placesR f).1 f f.length else -1
def luckF (P f : List Int) (i : Nat) : Bool := P.getD i 0 == f.getD i 0
def luckV (f : List Int) : Int := if (placesR f).2 = true then (cnt f.length (luckF (placesR f).1 f) : Nat) else -1
theorem placesR_ok {f : List Int} (h : (placesR f).2 = true) : CarsP f ∧ (placesR f).1.length = f.length ∧ ∀ x ∈ (placesR f).1, 0 ≤ x ∧ x ≤ 6 := by
  unfold placesR at h ⊢
  by_cases hc : CarsP f
  · rw [if_pos hc] at h ⊢
    cases hp : park f f.length with
    | none => rw [hp] at h; cases h
    | some out =>
      obtain ⟨h1, h2⟩ := park_facts f f.length out (Nat.le_refl _) hp
      exact ⟨hc, h1, fun x hx => by have := h2 x hx; have := hc.1; exact ⟨by omega, by omega⟩⟩
  · rw [if_neg hc] at h; cases h
end Go.Proofs.Ytdjickibifcelaa
