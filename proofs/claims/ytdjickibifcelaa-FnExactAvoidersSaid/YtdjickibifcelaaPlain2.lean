/- Plain words on lists of numbers: partitions without crossings, patterns of three. No program in sight; no condition. -/
import Derived.Test.YtdjickibifcelaaPlain
namespace Go.Proofs.Ytdjickibifcelaa
/-- no four elements in order lie in two blocks by turns -/
def QuadOk (p : List Int) (a b c d : Nat) : Prop := ¬ (p.getD a 0 = p.getD c 0 ∧ p.getD b 0 = p.getD d 0 ∧ p.getD a 0 ≠ p.getD b 0)
instance (p : List Int) (a b c d : Nat) : Decidable (QuadOk p a b c d) := by unfold QuadOk; exact inferInstance
def allB (n : Nat) (f : Nat → Bool) : Bool := (List.range n).all f
theorem allB_iff {n : Nat} {f : Nat → Bool} : allB n f = true ↔ ∀ i, i < n → f i = true := by simp [allB]
def quadsB (p : List Int) : Bool := allB p.length fun a => allB p.length fun b => allB p.length fun c => allB p.length fun d => decide (a < b → b < c → c < d → QuadOk p a b c d)
def NonP (p : List Int) : Prop := PartP p ∧ quadsB p = true
instance (p : List Int) : Decidable (NonP p) := by unfold NonP; exact inferInstance
theorem quadsB_iff {p : List Int} : quadsB p = true ↔ ∀ a, a < p.length → ∀ b, b < p.length → ∀ c, c < p.length → ∀ d, d < p.length → a < b → b < c → c < d → QuadOk p a b c d := by
  simp only [quadsB, allB_iff, decide_eq_true_eq]
def QA (p : List Int) (a : Nat) : Prop := ∀ b c d, a < b → b < c → c < d → d < p.length → QuadOk p a b c d
def QB (p : List Int) (a b : Nat) : Prop := ∀ c d, b < c → c < d → d < p.length → QuadOk p a b c d
def QC (p : List Int) (a b c : Nat) : Prop := ∀ d, c < d → d < p.length → QuadOk p a b c d
theorem NonP.of_all {p : List Int} (hp : PartP p) (h : ∀ a, a < p.length → QA p a) : NonP p := ⟨hp, quadsB_iff.2 fun a ha b _ c _ d hd h1 h2 h3 => h a ha b c d h1 h2 h3 hd⟩
theorem QuadOk.of_ne {p : List Int} {a b c d : Nat} (ha : a < p.length) (hc : c < p.length) (h : p[a] ≠ p[c]) : QuadOk p a b c d := by
  unfold QuadOk; rw [getD_of ha, getD_of hc]; exact fun e => h e.1
theorem QuadOk.of_ne2 {p : List Int} {a b c d : Nat} (hb : b < p.length) (hd : d < p.length) (h : p[b] ≠ p[d]) : QuadOk p a b c d := by
  unfold QuadOk; rw [getD_of hb, getD_of hd]; exact fun e => h e.2.1
theorem QuadOk.of_eq {p : List Int} {a b c d : Nat} (ha : a < p.length) (hb : b < p.length) (h : p[a] = p[b]) : QuadOk p a b c d := by
  unfold QuadOk; rw [getD_of ha, getD_of hb]; exact fun e => e.2.2 h
theorem NonP.not_of {p : List Int} {a b c d : Nat} (h1 : a < b) (h2 : b < c) (h3 : c < d) (hd : d < p.length) (e1 : p[a] = p[c]) (e2 : p[b] = p[d]) (e3 : p[a] ≠ p[b]) : ¬ NonP p := fun h =>
  quadsB_iff.1 h.2 a (by omega) b (by omega) c (by omega) d hd h1 h2 h3 (by rw [getD_of (by omega), getD_of (by omega), getD_of (by omega), getD_of hd]; exact ⟨e1, e2, e3⟩)

/-- three places in order with a property -/
def tripsB (R : Int → Int → Int → Bool) (p : List Int) : Bool := allB p.length fun a => allB p.length fun b => allB p.length fun c => decide (a < b → b < c → R (p.getD a 0) (p.getD b 0) (p.getD c 0) = false)
theorem tripsB_iff {R : Int → Int → Int → Bool} {p : List Int} : tripsB R p = true ↔ ∀ a, a < p.length → ∀ b, b < p.length → ∀ c, c < p.length → a < b → b < c → R (p.getD a 0) (p.getD b 0) (p.getD c 0) = false := by
  simp only [tripsB, allB_iff, decide_eq_true_eq]
def TripR (R : Int → Int → Int → Bool) (p : List Int) : Prop := PermP p ∧ ¬ tripsB R p = true
instance (R : Int → Int → Int → Bool) (p : List Int) : Decidable (TripR R p) := by unfold TripR; exact inferInstance
def TA (R : Int → Int → Int → Bool) (p : List Int) (a : Nat) : Prop := ∀ b c, a < b → b < c → c < p.length → R (p.getD a 0) (p.getD b 0) (p.getD c 0) = false
def TB (R : Int → Int → Int → Bool) (p : List Int) (a b : Nat) : Prop := ∀ c, b < c → c < p.length → R (p.getD a 0) (p.getD b 0) (p.getD c 0) = false
theorem TripR.of_none {R : Int → Int → Int → Bool} {p : List Int} (h : ∀ a, a < p.length → TA R p a) : ¬ TripR R p := by
  rintro ⟨_, hn⟩
  exact hn (tripsB_iff.2 fun a ha b _ c hc h1 h2 => h a ha b c h1 h2 hc)
theorem TripR.of_hit {R : Int → Int → Int → Bool} {p : List Int} {a b c : Nat} (hp : PermP p) (h1 : a < b) (h2 : b < c) (hc : c < p.length) (h : R p[a] p[b] p[c] = true) : TripR R p := by
  refine ⟨hp, fun hn => ?_⟩
  have := tripsB_iff.1 hn a (by omega) b (by omega) c hc h1 h2
  rw [getD_of (by omega), getD_of (by omega), getD_of hc, h] at this
  cases this
def R231 (x y z : Int) : Bool := decide (z < x) && decide (x < y)
def R321 (x y z : Int) : Bool := decide (y < x) && decide (z < y)
/-- the inverse, store by store; a matching that is turned, store by store -/
def invL (p : List Int) (k : Nat) : List Int := (List.range k).foldl (fun out i => out.set (p.getD i 0).toNat (i : Int)) (List.replicate p.length 0)
theorem invL_succ (p : List Int) (k : Nat) : invL p (k + 1) = (invL p k).set (p.getD k 0).toNat (k : Int) := by simp [invL, List.range_succ]
theorem invL_len (p : List Int) (k : Nat) : (invL p k).length = p.length := by
  induction k with
  | zero => simp [invL]
  | succ k ih => rw [invL_succ, List.length_set, ih]
def invR (p : List Int) : List Int × Bool := if PermP p then (invL p p.length, true) else ([], false)
def turnL (m : List Int) (t : Int) (k : Nat) : List Int :=
  (List.range k).foldl (fun (out : List Int) (i : Nat) => out.set (((i : Int) - t + m.length) % m.length).toNat ((m.getD i 0 - t + m.length) % m.length)) (List.replicate m.length 0)
theorem turnL_succ (m : List Int) (t : Int) (k : Nat) : turnL m t (k + 1) = (turnL m t k).set (((k : Int) - t + m.length) % m.length).toNat ((m.getD k 0 - t + m.length) % m.length) := by simp [turnL, List.range_succ]
theorem turnL_len (m : List Int) (t : Int) (k : Nat) : (turnL m t k).length = m.length := by
  induction k with
  | zero => simp [turnL]
  | succ k ih => rw [turnL_succ, List.length_set, ih]
def turnR (m : List Int) (t : Int) : List Int × Bool := if MatchP m ∧ 0 ≤ t ∧ t ≤ max 0 ((m.length : Int) - 1) then (turnL m t m.length, true) else ([], false)
/-- the path of a matching -/
def pomL (m : List Int) (k : Nat) : List UInt8 := (List.range k).map fun (i : Nat) => if (i : Int) < m.getD i 0 then 117 else 100
theorem pomL_succ (m : List Int) (k : Nat) : pomL m (k + 1) = pomL m k ++ [if (k : Int) < m.getD k 0 then 117 else 100] := by simp [pomL, List.range_succ]
theorem pomL_len (m : List Int) (k : Nat) : (pomL m k).length = k := by simp [pomL]
def pomR (m : List Int) : List UInt8 × Bool := if crossV m = 0 then (pomL m m.length, true) else ([], false)
theorem crossV_ok {m : List Int} (h : crossV m = 0) : MatchP m := by
  unfold crossV at h
  by_cases hp : MatchP m
  · exact hp
  · rw [if_neg hp] at h; omega
end Go.Proofs.Ytdjickibifcelaa
