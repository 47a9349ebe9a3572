/- Plain words on lists of numbers: counts and sums, matchings, permutations, partitions. No program in sight; no condition. -/
import Derived.Below
namespace Go.Proofs.Ytnkkgfeegaiakaa
/-- what a number's kind holds -/
def I64 (x : Int) : Prop := -9223372036854775808 ≤ x ∧ x ≤ 9223372036854775807
/-- sums and counts up to n -/
def sumTo (n : Nat) (g : Nat → Nat) : Nat := ((List.range n).map g).sum
def cnt (n : Nat) (f : Nat → Bool) : Nat := sumTo n (fun i => (f i).toNat)
theorem sumTo_zero (g : Nat → Nat) : sumTo 0 g = 0 := rfl
theorem sumTo_succ (n : Nat) (g : Nat → Nat) : sumTo (n + 1) g = sumTo n g + g n := by simp [sumTo, List.range_succ]
theorem cnt_zero_ (f : Nat → Bool) : cnt 0 f = 0 := rfl
theorem cnt_succ (n : Nat) (f : Nat → Bool) : cnt (n + 1) f = cnt n f + (f n).toNat := sumTo_succ _ _
theorem sumTo_congr {n : Nat} {g g' : Nat → Nat} (h : ∀ i, i < n → g i = g' i) : sumTo n g = sumTo n g' := by
  induction n with
  | zero => rfl
  | succ n ih => rw [sumTo_succ, sumTo_succ, ih (fun i hi => h i (by omega)), h n (by omega)]
theorem cnt_congr {n : Nat} {f f' : Nat → Bool} (h : ∀ i, i < n → f i = f' i) : cnt n f = cnt n f' := sumTo_congr fun i hi => by rw [h i hi]
theorem cnt_none {n : Nat} {f : Nat → Bool} (h : ∀ i, i < n → f i = false) : cnt n f = 0 := by
  induction n with
  | zero => rfl
  | succ n ih => rw [cnt_succ, ih (fun i hi => h i (by omega)), h n (by omega)]; rfl
theorem sumTo_le {n B : Nat} {g : Nat → Nat} (h : ∀ i, i < n → g i ≤ B) : sumTo n g ≤ n * B := by
  induction n with
  | zero => simp [sumTo]
  | succ n ih =>
    rw [sumTo_succ, Nat.succ_mul]
    exact Nat.add_le_add (ih fun i hi => h i (by omega)) (h n (by omega))
theorem cnt_le (n : Nat) (f : Nat → Bool) : cnt n f ≤ n := by
  have := sumTo_le (n := n) (B := 1) (g := fun i => (f i).toNat) (fun i _ => by cases f i <;> simp)
  simpa [cnt] using this
theorem cnt_hit {n : Nat} {f : Nat → Bool} (h : f n = true) : cnt (n + 1) f = cnt n f + 1 := by rw [cnt_succ, h]; rfl
theorem cnt_miss {n : Nat} {f : Nat → Bool} (h : f n = false) : cnt (n + 1) f = cnt n f := by rw [cnt_succ, h]; rfl

theorem getD_of {α : Type} {l : List α} {k : Nat} (h : k < l.length) (d : α) : l.getD k d = l[k] := by simp [List.getD, h]

/-- a matching of at most sixteen points -/
def MatchOk (m : List Int) (k : Nat) : Prop := 0 ≤ m.getD k 0 ∧ m.getD k 0 < m.length ∧ m.getD k 0 ≠ k ∧ m.getD (m.getD k 0).toNat 0 = k
instance (m : List Int) (k : Nat) : Decidable (MatchOk m k) := by unfold MatchOk; exact inferInstance
def MatchP (m : List Int) : Prop := m.length ≤ 16 ∧ ∀ k, k < m.length → MatchOk m k
instance (m : List Int) : Decidable (MatchP m) := by unfold MatchP; exact inferInstance
theorem MatchP.not_at {m : List Int} {k : Nat} (hk : k < m.length) (h : ¬ MatchOk m k) : ¬ MatchP m := fun hp => h (hp.2 k hk)
theorem MatchOk.mk_ {m : List Int} {k : Nat} (hk : k < m.length) (h0 : 0 ≤ m[k]) (h1 : m[k].toNat < m.length) (h2 : m[k] ≠ k) (h3 : m[m[k].toNat] = (k : Int)) : MatchOk m k := by
  unfold MatchOk
  rw [getD_of hk, getD_of h1]
  exact ⟨h0, by omega, h2, h3⟩
theorem MatchOk.get {m : List Int} {k : Nat} (hk : k < m.length) (h : MatchOk m k) : 0 ≤ m[k] ∧ m[k] ≠ k ∧ ∃ h1 : m[k].toNat < m.length, m[m[k].toNat] = (k : Int) := by
  unfold MatchOk at h
  rw [getD_of hk] at h
  obtain ⟨h0, h1, h2, h3⟩ := h
  have h1' : m[k].toNat < m.length := by omega
  rw [getD_of h1'] at h3
  exact ⟨h0, h2, h1', h3⟩

/-- a permutation of at most eight numbers -/
def PermOk (p : List Int) (k : Nat) : Prop := 0 ≤ p.getD k 0 ∧ p.getD k 0 < p.length ∧ ∀ j, j < k → p.getD j 0 ≠ p.getD k 0
instance (p : List Int) (k : Nat) : Decidable (PermOk p k) := by unfold PermOk; exact inferInstance
def PermP (p : List Int) : Prop := p.length ≤ 8 ∧ ∀ k, k < p.length → PermOk p k
instance (p : List Int) : Decidable (PermP p) := by unfold PermP; exact inferInstance
theorem PermP.not_at {p : List Int} {k : Nat} (hk : k < p.length) (h : ¬ PermOk p k) : ¬ PermP p := fun hp => h (hp.2 k hk)
theorem PermP.range {p : List Int} (h : PermP p) {k : Nat} (hk : k < p.length) : 0 ≤ p[k] ∧ p[k] < p.length := by
  obtain ⟨h0, h1, _⟩ := h.2 k hk
  rw [getD_of hk] at h0 h1
  exact ⟨h0, h1⟩
/-- descents and inversions -/
def desF (p : List Int) (i : Nat) : Bool := decide (1 ≤ i) && decide (p.getD i 0 < p.getD (i - 1) 0)
def desV (p : List Int) : Int := if PermP p then (cnt p.length (desF p) : Nat) else -1
def invF (p : List Int) (a b : Nat) : Bool := decide (a < b) && decide (p.getD b 0 < p.getD a 0)
def invV (p : List Int) : Int := if PermP p then (sumTo p.length (fun a => cnt p.length (invF p a)) : Nat) else -1
theorem cnt_start {f : Nat → Bool} {k : Nat} (h : ∀ i, i ≤ k → f i = false) : cnt (k + 1) f = 0 := cnt_none fun i hi => h i (by omega)
theorem invF_low (p : List Int) (a i : Nat) (h : i ≤ a) : invF p a i = false := by simp [invF]; omega
theorem desF_zero (p : List Int) : desF p 0 = false := by simp [desF]
theorem sum_cnt_le (n m : Nat) (f : Nat → Nat → Bool) : sumTo n (fun a => cnt m (f a)) ≤ n * m := sumTo_le fun _ _ => cnt_le _ _
/-- which numbers below n stand among the first k of p -/
def seenL (p : List Int) (n k : Nat) : List Bool := (List.range n).map fun (x : Nat) => (p.take k).contains (x : Int)
theorem seenL_len (p : List Int) (n k : Nat) : (seenL p n k).length = n := by simp [seenL]
theorem seenL_zero (p : List Int) (n : Nat) : seenL p n 0 = List.replicate n false := by
  unfold seenL
  apply List.ext_getElem <;> simp
theorem seenL_get (p : List Int) (n k x : Nat) (hx : x < (seenL p n k).length) : (seenL p n k)[x] = (p.take k).contains (x : Int) := by simp [seenL]
theorem seenL_set (p : List Int) (n k x : Nat) (hk : k < p.length) (hx : p[k] = (x : Int)) : seenL p n (k + 1) = (seenL p n k).set x true := by
  apply List.ext_getElem
  · simp [seenL]
  · intro i h1 h2
    rw [List.getElem_set]
    simp only [seenL_get]
    rw [List.take_succ_eq_append_getElem hk, hx]
    by_cases h : x = i
    · subst h; simp
    · rw [if_neg h]
      simp [show (i : Int) ≠ (x : Int) from by omega]
theorem contains_iff (p : List Int) (k : Nat) (hk : k ≤ p.length) (x : Int) : (p.take k).contains x = true ↔ ∃ j, j < k ∧ p.getD j 0 = x := by
  rw [List.contains_iff_mem, List.mem_take_iff_getElem]
  constructor
  · rintro ⟨j, hj, e⟩
    exact ⟨j, by omega, by rw [getD_of (by omega), e]⟩
  · rintro ⟨j, hj, e⟩
    exact ⟨j, by omega, by rw [← e, getD_of (by omega)]⟩

/-- a partition of at most eight elements: the next new block, and each number is at most that -/
def nextOf (p : List Int) (k : Nat) : Int := (p.take k).foldl (fun n b => max n (b + 1)) 0
def PartOk (p : List Int) (k : Nat) : Prop := 0 ≤ p.getD k 0 ∧ p.getD k 0 ≤ nextOf p k
instance (p : List Int) (k : Nat) : Decidable (PartOk p k) := by unfold PartOk; exact inferInstance
def PartP (p : List Int) : Prop := p.length ≤ 8 ∧ ∀ k, k < p.length → PartOk p k
instance (p : List Int) : Decidable (PartP p) := by unfold PartP; exact inferInstance
theorem PartP.not_at {p : List Int} {k : Nat} (hk : k < p.length) (h : ¬ PartOk p k) : ¬ PartP p := fun hp => h (hp.2 k hk)
theorem nextOf_zero (p : List Int) : nextOf p 0 = 0 := rfl
theorem nextOf_succ (p : List Int) (k : Nat) (hk : k < p.length) : nextOf p (k + 1) = max (nextOf p k) (p[k] + 1) := by
  unfold nextOf
  rw [List.take_succ_eq_append_getElem hk, List.foldl_append]
  rfl
/-- crossings and nestings of a matching -/
def crossF (m : List Int) (a b : Nat) : Bool := decide (a < b) && (decide ((b : Int) < m.getD a 0) && decide (m.getD a 0 < m.getD b 0))
def nestF (m : List Int) (a b : Nat) : Bool := decide (a < b) && (decide ((b : Int) < m.getD b 0) && decide (m.getD b 0 < m.getD a 0))
def crossN (m : List Int) : Nat := sumTo m.length (fun a => cnt m.length (crossF m a))
def nestN (m : List Int) : Nat := sumTo m.length (fun a => cnt m.length (nestF m a))
def crossV (m : List Int) : Int := if MatchP m then (crossN m : Nat) else -1
def nestV (m : List Int) : Int := if MatchP m then (nestN m : Nat) else -1
theorem crossF_low (m : List Int) (a i : Nat) (h : i ≤ a) : crossF m a i = false := by simp [crossF]; omega
theorem nestF_low (m : List Int) (a i : Nat) (h : i ≤ a) : nestF m a i = false := by simp [nestF]; omega
theorem crossF_of {m : List Int} {a b : Nat} (ha : a < m.length) (hb : b < m.length) (hab : a < b) (h1 : (b : Int) < m[a]) (h2 : m[a] < m[b]) : crossF m a b = true := by
  unfold crossF; rw [getD_of ha, getD_of hb]; simp; exact ⟨hab, h1, h2⟩
theorem crossF_not {m : List Int} {a b : Nat} (ha : a < m.length) (hb : b < m.length) (h : ¬ (a < b ∧ (b : Int) < m[a] ∧ m[a] < m[b])) : crossF m a b = false := by
  unfold crossF; rw [getD_of ha, getD_of hb]
  rw [Bool.eq_false_iff]; intro e; simp at e; exact h e
theorem nestF_of {m : List Int} {a b : Nat} (ha : a < m.length) (hb : b < m.length) (hab : a < b) (h1 : (b : Int) < m[b]) (h2 : m[b] < m[a]) : nestF m a b = true := by
  unfold nestF; rw [getD_of ha, getD_of hb]; simp; exact ⟨hab, h1, h2⟩
theorem nestF_not {m : List Int} {a b : Nat} (ha : a < m.length) (hb : b < m.length) (h : ¬ (a < b ∧ (b : Int) < m[b] ∧ m[b] < m[a])) : nestF m a b = false := by
  unfold nestF; rw [getD_of ha, getD_of hb]
  rw [Bool.eq_false_iff]; intro e; simp at e; exact h e
theorem MatchP.inj {m : List Int} (h : MatchP m) {a b : Nat} (ha : a < m.length) (hb : b < m.length) (e : m[a] = m[b]) : a = b := by
  obtain ⟨_, _, h1, h2⟩ := (h.2 a ha).get ha
  obtain ⟨_, _, h3, h4⟩ := (h.2 b hb).get hb
  simp only [e] at h2
  rw [h4] at h2
  omega
end Go.Proofs.Ytnkkgfeegaiakaa
