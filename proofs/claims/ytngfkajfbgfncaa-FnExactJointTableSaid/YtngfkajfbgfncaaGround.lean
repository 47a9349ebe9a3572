/- The ground of the proof: Plain words on lists of numbers: counts and sums, matchings, permutations, partitions. No program in sight; no condition; Words for memory: a slice value that reads as a list of numbers, a slice value that owns such a list; both are kept over calls that leave old blocks alone. No condition; Appending one cell to a row that the call owns: what is owned behind it, and that no other old block has turned. No condition; and more. No condition but what each lemma says. -/
import Derived.Below
import Derived.Test.YtngfkajfbgfncaaProg
import Derived.WalkKit
import Derived.WalkSpells
import Derived.Deep.QuietTactic
import Derived.BigQuiet
import Derived.Lib.Hide
import Derived.Maps.AppendAt
/- Plain words on lists of numbers: counts and sums, matchings, permutations, partitions. No program in sight; no condition. -/
namespace Go.Proofs.Ytngfkajfbgfncaa
/-- what a number's kind holds -/
def I64 (x : Int) : Prop := -9223372036854775808 ≤ x ∧ x ≤ 9223372036854775807
/-- sums and counts up to n -/
def sumTo (n : Nat) (g : Nat → Nat) : Nat := ((List.range n).map g).sum
def cnt (n : Nat) (f : Nat → Bool) : Nat := sumTo n (fun i => (f i).toNat)
theorem sumTo_zero (g : Nat → Nat) : sumTo 0 g = 0 := rfl
theorem sumTo_succ (n : Nat) (g : Nat → Nat) : sumTo (n + 1) g = sumTo n g + g n := by simp [sumTo, List.range_succ]
theorem cnt_zero_ (f : Nat → Bool) : cnt 0 f = 0 := rfl
theorem cnt_succ (n : Nat) (f : Nat → Bool) : cnt (n + 1) f = cnt n f + (f n).toNat := sumTo_succ _ _
theorem sumTo_congr {n : Nat} {g g' : Nat → Nat} (h : ∀ i, i < n → g i = g' i) : sumTo n g = sumTo n g' := by
  induction n with
  | zero => rfl
  | succ n ih => rw [sumTo_succ, sumTo_succ, ih (fun i hi => h i (by omega)), h n (by omega)]
theorem cnt_congr {n : Nat} {f f' : Nat → Bool} (h : ∀ i, i < n → f i = f' i) : cnt n f = cnt n f' := sumTo_congr fun i hi => by rw [h i hi]
theorem cnt_none {n : Nat} {f : Nat → Bool} (h : ∀ i, i < n → f i = false) : cnt n f = 0 := by
  induction n with
  | zero => rfl
  | succ n ih => rw [cnt_succ, ih (fun i hi => h i (by omega)), h n (by omega)]; rfl
theorem sumTo_le {n B : Nat} {g : Nat → Nat} (h : ∀ i, i < n → g i ≤ B) : sumTo n g ≤ n * B := by
  induction n with
  | zero => simp [sumTo]
  | succ n ih =>
    rw [sumTo_succ, Nat.succ_mul]
    exact Nat.add_le_add (ih fun i hi => h i (by omega)) (h n (by omega))
theorem cnt_le (n : Nat) (f : Nat → Bool) : cnt n f ≤ n := by
  have := sumTo_le (n := n) (B := 1) (g := fun i => (f i).toNat) (fun i _ => by cases f i <;> simp)
  simpa [cnt] using this
theorem cnt_hit {n : Nat} {f : Nat → Bool} (h : f n = true) : cnt (n + 1) f = cnt n f + 1 := by rw [cnt_succ, h]; rfl
theorem cnt_miss {n : Nat} {f : Nat → Bool} (h : f n = false) : cnt (n + 1) f = cnt n f := by rw [cnt_succ, h]; rfl

theorem getD_of {α : Type} {l : List α} {k : Nat} (h : k < l.length) (d : α) : l.getD k d = l[k] := by simp [List.getD, h]

/-- a matching of at most sixteen points -/
def MatchOk (m : List Int) (k : Nat) : Prop := 0 ≤ m.getD k 0 ∧ m.getD k 0 < m.length ∧ m.getD k 0 ≠ k ∧ m.getD (m.getD k 0).toNat 0 = k
instance (m : List Int) (k : Nat) : Decidable (MatchOk m k) := by unfold MatchOk; exact inferInstance
def MatchP (m : List Int) : Prop := m.length ≤ 16 ∧ ∀ k, k < m.length → MatchOk m k
instance (m : List Int) : Decidable (MatchP m) := by unfold MatchP; exact inferInstance
theorem MatchP.not_at {m : List Int} {k : Nat} (hk : k < m.length) (h : ¬ MatchOk m k) : ¬ MatchP m := fun hp => h (hp.2 k hk)
theorem MatchOk.mk_ {m : List Int} {k : Nat} (hk : k < m.length) (h0 : 0 ≤ m[k]) (h1 : m[k].toNat < m.length) (h2 : m[k] ≠ k) (h3 : m[m[k].toNat] = (k : Int)) : MatchOk m k := by
  unfold MatchOk
  rw [getD_of hk, getD_of h1]
  exact ⟨h0, by omega, h2, h3⟩
theorem MatchOk.get {m : List Int} {k : Nat} (hk : k < m.length) (h : MatchOk m k) : 0 ≤ m[k] ∧ m[k] ≠ k ∧ ∃ h1 : m[k].toNat < m.length, m[m[k].toNat] = (k : Int) := by
  unfold MatchOk at h
  rw [getD_of hk] at h
  obtain ⟨h0, h1, h2, h3⟩ := h
  have h1' : m[k].toNat < m.length := by omega
  rw [getD_of h1'] at h3
  exact ⟨h0, h2, h1', h3⟩

/-- a permutation of at most eight numbers -/
def PermOk (p : List Int) (k : Nat) : Prop := 0 ≤ p.getD k 0 ∧ p.getD k 0 < p.length ∧ ∀ j, j < k → p.getD j 0 ≠ p.getD k 0
instance (p : List Int) (k : Nat) : Decidable (PermOk p k) := by unfold PermOk; exact inferInstance
def PermP (p : List Int) : Prop := p.length ≤ 8 ∧ ∀ k, k < p.length → PermOk p k
instance (p : List Int) : Decidable (PermP p) := by unfold PermP; exact inferInstance
theorem PermP.not_at {p : List Int} {k : Nat} (hk : k < p.length) (h : ¬ PermOk p k) : ¬ PermP p := fun hp => h (hp.2 k hk)
theorem PermP.range {p : List Int} (h : PermP p) {k : Nat} (hk : k < p.length) : 0 ≤ p[k] ∧ p[k] < p.length := by
  obtain ⟨h0, h1, _⟩ := h.2 k hk
  rw [getD_of hk] at h0 h1
  exact ⟨h0, h1⟩
/-- descents and inversions -/
def desF (p : List Int) (i : Nat) : Bool := decide (1 ≤ i) && decide (p.getD i 0 < p.getD (i - 1) 0)
def desV (p : List Int) : Int := if PermP p then (cnt p.length (desF p) : Nat) else -1
def invF (p : List Int) (a b : Nat) : Bool := decide (a < b) && decide (p.getD b 0 < p.getD a 0)
def invV (p : List Int) : Int := if PermP p then (sumTo p.length (fun a => cnt p.length (invF p a)) : Nat) else -1
theorem cnt_start {f : Nat → Bool} {k : Nat} (h : ∀ i, i ≤ k → f i = false) : cnt (k + 1) f = 0 := cnt_none fun i hi => h i (by omega)
theorem invF_low (p : List Int) (a i : Nat) (h : i ≤ a) : invF p a i = false := by simp [invF]; omega
theorem desF_zero (p : List Int) : desF p 0 = false := by simp [desF]
theorem sum_cnt_le (n m : Nat) (f : Nat → Nat → Bool) : sumTo n (fun a => cnt m (f a)) ≤ n * m := sumTo_le fun _ _ => cnt_le _ _
/-- which numbers below n stand among the first k of p -/
def seenL (p : List Int) (n k : Nat) : List Bool := (List.range n).map fun (x : Nat) => (p.take k).contains (x : Int)
theorem seenL_len (p : List Int) (n k : Nat) : (seenL p n k).length = n := by simp [seenL]
theorem seenL_zero (p : List Int) (n : Nat) : seenL p n 0 = List.replicate n false := by
  unfold seenL
  apply List.ext_getElem <;> simp
theorem seenL_get (p : List Int) (n k x : Nat) (hx : x < (seenL p n k).length) : (seenL p n k)[x] = (p.take k).contains (x : Int) := by simp [seenL]
theorem seenL_set (p : List Int) (n k x : Nat) (hk : k < p.length) (hx : p[k] = (x : Int)) : seenL p n (k + 1) = (seenL p n k).set x true := by
  apply List.ext_getElem
  · simp [seenL]
  · intro i h1 h2
    rw [List.getElem_set]
    simp only [seenL_get]
    rw [List.take_succ_eq_append_getElem hk, hx]
    by_cases h : x = i
    · subst h; simp
    · rw [if_neg h]
      simp [show (i : Int) ≠ (x : Int) from by omega]
theorem contains_iff (p : List Int) (k : Nat) (hk : k ≤ p.length) (x : Int) : (p.take k).contains x = true ↔ ∃ j, j < k ∧ p.getD j 0 = x := by
  rw [List.contains_iff_mem, List.mem_take_iff_getElem]
  constructor
  · rintro ⟨j, hj, e⟩
    exact ⟨j, by omega, by rw [getD_of (by omega), e]⟩
  · rintro ⟨j, hj, e⟩
    exact ⟨j, by omega, by rw [← e, getD_of (by omega)]⟩

/-- a partition of at most eight elements: the next new block, and each number is at most that -/
def nextOf (p : List Int) (k : Nat) : Int := (p.take k).foldl (fun n b => max n (b + 1)) 0
def PartOk (p : List Int) (k : Nat) : Prop := 0 ≤ p.getD k 0 ∧ p.getD k 0 ≤ nextOf p k
instance (p : List Int) (k : Nat) : Decidable (PartOk p k) := by unfold PartOk; exact inferInstance
def PartP (p : List Int) : Prop := p.length ≤ 8 ∧ ∀ k, k < p.length → PartOk p k
instance (p : List Int) : Decidable (PartP p) := by unfold PartP; exact inferInstance
theorem PartP.not_at {p : List Int} {k : Nat} (hk : k < p.length) (h : ¬ PartOk p k) : ¬ PartP p := fun hp => h (hp.2 k hk)
theorem nextOf_zero (p : List Int) : nextOf p 0 = 0 := rfl
theorem nextOf_succ (p : List Int) (k : Nat) (hk : k < p.length) : nextOf p (k + 1) = max (nextOf p k) (p[k] + 1) := by
  unfold nextOf
  rw [List.take_succ_eq_append_getElem hk, List.foldl_append]
  rfl
/-- crossings and nestings of a matching -/
def crossF (m : List Int) (a b : Nat) : Bool := decide (a < b) && (decide ((b : Int) < m.getD a 0) && decide (m.getD a 0 < m.getD b 0))
def nestF (m : List Int) (a b : Nat) : Bool := decide (a < b) && (decide ((b : Int) < m.getD b 0) && decide (m.getD b 0 < m.getD a 0))
def crossN (m : List Int) : Nat := sumTo m.length (fun a => cnt m.length (crossF m a))
def nestN (m : List Int) : Nat := sumTo m.length (fun a => cnt m.length (nestF m a))
def crossV (m : List Int) : Int := if MatchP m then (crossN m : Nat) else -1
def nestV (m : List Int) : Int := if MatchP m then (nestN m : Nat) else -1
theorem crossF_low (m : List Int) (a i : Nat) (h : i ≤ a) : crossF m a i = false := by simp [crossF]; omega
theorem nestF_low (m : List Int) (a i : Nat) (h : i ≤ a) : nestF m a i = false := by simp [nestF]; omega
theorem crossF_of {m : List Int} {a b : Nat} (ha : a < m.length) (hb : b < m.length) (hab : a < b) (h1 : (b : Int) < m[a]) (h2 : m[a] < m[b]) : crossF m a b = true := by
  unfold crossF; rw [getD_of ha, getD_of hb]; simp; exact ⟨hab, h1, h2⟩
theorem crossF_not {m : List Int} {a b : Nat} (ha : a < m.length) (hb : b < m.length) (h : ¬ (a < b ∧ (b : Int) < m[a] ∧ m[a] < m[b])) : crossF m a b = false := by
  unfold crossF; rw [getD_of ha, getD_of hb]
  rw [Bool.eq_false_iff]; intro e; simp at e; exact h e
theorem nestF_of {m : List Int} {a b : Nat} (ha : a < m.length) (hb : b < m.length) (hab : a < b) (h1 : (b : Int) < m[b]) (h2 : m[b] < m[a]) : nestF m a b = true := by
  unfold nestF; rw [getD_of ha, getD_of hb]; simp; exact ⟨hab, h1, h2⟩
theorem nestF_not {m : List Int} {a b : Nat} (ha : a < m.length) (hb : b < m.length) (h : ¬ (a < b ∧ (b : Int) < m[b] ∧ m[b] < m[a])) : nestF m a b = false := by
  unfold nestF; rw [getD_of ha, getD_of hb]
  rw [Bool.eq_false_iff]; intro e; simp at e; exact h e
theorem MatchP.inj {m : List Int} (h : MatchP m) {a b : Nat} (ha : a < m.length) (hb : b < m.length) (e : m[a] = m[b]) : a = b := by
  obtain ⟨_, _, h1, h2⟩ := (h.2 a ha).get ha
  obtain ⟨_, _, h3, h4⟩ := (h.2 b hb).get hb
  simp only [e] at h2
  rw [h4] at h2
  omega
end Go.Proofs.Ytngfkajfbgfncaa

/- Words for memory: a slice value that reads as a list of numbers, a slice value that owns such a list; both are kept over calls that leave old blocks alone. No condition. -/
namespace Go.Proofs.Ytngfkajfbgfncaa
open Go.RowKit

/-- a slice value that reads as a list of numbers -/
def RdI (w : World) (v : Value) (xs : List Int) : Prop :=
  ∃ A c, v = .slice A xs.length c ∧ xs.length ≤ c ∧ xs.length ≤ 1099511627776 ∧ (0 < xs.length → ∃ b o, A = some ⟨b, o, none⟩ ∧ b < w.heap.size ∧ ∀ k (_ : k < xs.length), w.cell? ⟨b, o + k, none⟩ = some (.int .i64 xs[k]))
/-- a slice value that owns a row of cells of type e in a block from base on -/
def Own (w : World) (base : Nat) (e : TypeId) (v : Value) (cs : List Value) : Prop :=
  w.ownsRow base e 1 v cs.length cs ∧ cs.length ≤ 1099511627776
/-- a slice value that owns a row of numbers in a block from base on -/
def OwI (w : World) (base : Nat) (v : Value) (xs : List Int) : Prop :=
  w.ownsRow base 3 1 v xs.length (xs.map (Value.int .i64)) ∧ xs.length ≤ 1099511627776

theorem ne_of_lt_len {n : Nat} (h : n = 0) (h' : 0 < n) : False := by omega
theorem OwI.rd {w : World} {base : Nat} {v : Value} {xs : List Int} (h : OwI w base v xs) : RdI w v xs := by
  obtain ⟨h, hl⟩ := h
  rcases h.2 with ⟨rfl, h0⟩ | ⟨g, cap, cur, rfl, hb, hh, hn, hm, hs, ht⟩
  · have hx : xs = [] := List.eq_nil_of_length_eq_zero h0
    subst hx
    exact ⟨none, 0, rfl, Nat.le_refl _, by simp, fun h => by simp at h⟩
  · refine ⟨_, cap, rfl, hn, hl, fun _ => ⟨g, 0, rfl, ?_, fun k hk => ?_⟩⟩
    · rcases Nat.lt_or_ge g w.heap.size with hlt | hge
      · exact hlt
      · rw [Array.getElem?_eq_none hge] at hh; cases hh
    · rw [Nat.zero_add, h.cellAt k (by simpa using hk)]
      simp [hk]
theorem RdI.of_block {w w' : World} {v : Value} {xs : List Int} (h : RdI w v xs) (hs : w.heap.size ≤ w'.heap.size) (hb : ∀ k, k < w.heap.size → w'.heap[k]? = w.heap[k]?) : RdI w' v xs := by
  obtain ⟨A, c, rfl, h1, h2, h3⟩ := h
  refine ⟨A, c, rfl, h1, h2, fun h0 => ?_⟩
  obtain ⟨b, o, rfl, hlt, hc⟩ := h3 h0
  exact ⟨b, o, rfl, Nat.lt_of_lt_of_le hlt hs, fun k hk => (World.cell?_of_block (a := ⟨b, o + k, none⟩) (hb b hlt)).trans (hc k hk)⟩
theorem RdI.below {w w' : World} {v : Value} {xs : List Int} (h : RdI w v xs) (hb : Below w.heap.size w w') : RdI w' v xs := h.of_block hb.size hb.block
theorem RdI.drewN {w : World} {v : Value} {xs : List Int} (h : RdI w v xs) (q : Nat) : RdI (w.drewN q) v xs := h
theorem RdI.len_le {w : World} {v : Value} {xs : List Int} (h : RdI w v xs) : xs.length ≤ 1099511627776 := by
  obtain ⟨A, c, rfl, h1, h2, h3⟩ := h; exact h2
theorem RdI.at_ {w : World} {A : Option Addr} {n c : Nat} {xs : List Int} (h : RdI w (.slice A n c) xs) : 0 < xs.length → ∃ b o, A = some ⟨b, o, none⟩ ∧ b < w.heap.size ∧ ∀ k (_ : k < xs.length), w.cell? ⟨b, o + k, none⟩ = some (.int .i64 xs[k]) := by
  obtain ⟨A', c', e, h1, h2, h3⟩ := h
  injection e with e1 e2 e3
  subst e1
  exact h3
theorem RdI.nil_ (w : World) : RdI w (.slice none 0 0) [] := ⟨none, 0, rfl, Nat.le_refl _, by simp, fun h => by simp at h⟩
theorem OwI.nil_ (w : World) (base : Nat) : OwI w base (.slice none 0 0) [] := ⟨World.ownsRow_nil _ _ _ _, by simp⟩
theorem OwI.lt {w : World} {base : Nat} {v : Value} {xs : List Int} (h : OwI w base v xs) : ∀ k, v.ownBlock = some k → base ≤ k ∧ k < w.heap.size := h.1.lt
theorem OwI.grown {w w' : World} {base : Nat} {v : Value} {xs : List Int} {row : Option Nat} (h : OwI w base v xs) (hg : w.grownBy w' row) (hne : v.ownBlock = none ∨ v.ownBlock ≠ row) : OwI w' base v xs := ⟨h.1.kept hg hne, h.2⟩
theorem grown_of_below {w w' : World} (h : Below w.heap.size w w') : w.grownBy w' none := ⟨h.os, h.tape, h.output, h.size, fun k hk _ => h.block k hk⟩
theorem below_of_grown {w w' : World} (h : w.grownBy w' none) : Below w.heap.size w w' := ⟨h.os, h.tape, h.output, h.size, fun k hk => h.block k hk (by simp)⟩
theorem OwI.below {w w' : World} {base : Nat} {v : Value} {xs : List Int} (h : OwI w base v xs) (hb : Below w.heap.size w w') : OwI w' base v xs := by
  refine h.grown (grown_of_below hb) ?_
  cases hv : v.ownBlock <;> simp
theorem OwI.drewN {w : World} {base : Nat} {v : Value} {xs : List Int} (h : OwI w base v xs) (q : Nat) : OwI (w.drewN q) base v xs := h
theorem OwI.mono {w : World} {base base' : Nat} {v : Value} {xs : List Int} (h : OwI w base v xs) (hb : base' ≤ base) : OwI w base' v xs := by
  obtain ⟨⟨h1, h2⟩, h3⟩ := h
  refine ⟨⟨h1, ?_⟩, h3⟩
  rcases h2 with h2 | ⟨g, cap, cur, e1, e2, e3⟩
  · exact .inl h2
  · exact .inr ⟨g, cap, cur, e1, Nat.le_trans hb e2, e3⟩
theorem OwI.len_le {w : World} {base : Nat} {v : Value} {xs : List Int} (h : OwI w base v xs) : xs.length ≤ 1099511627776 := h.2
/-- the shape of an owned slice that is not empty -/
theorem OwI.shape {w : World} {base : Nat} {v : Value} {xs : List Int} (h : OwI w base v xs) : (v = .slice none 0 0 ∧ xs = []) ∨ ∃ g cap, v = .slice (some ⟨g, 0, none⟩) xs.length cap ∧ base ≤ g ∧ g < w.heap.size := by
  rcases h.1.2 with ⟨e, h0⟩ | ⟨g, cap, cur, e, hb, hh, _⟩
  · exact .inl ⟨e, List.eq_nil_of_length_eq_zero h0⟩
  · refine .inr ⟨g, cap, e, hb, ?_⟩
    rcases Nat.lt_or_ge g w.heap.size with hlt | hge
    · exact hlt
    · rw [Array.getElem?_eq_none hge] at hh; cases hh
theorem below_drewN {B : Nat} {a w : World} (h : Below B a w) (q : Nat) : Below B a (w.drewN q) := ⟨h.os, h.tape, h.output, h.size, h.block⟩
theorem drewN_two (w : World) (p q : Nat) : (w.drewN p).drewN q = w.drewN (p + q) := by simp [World.drewN, Nat.add_assoc]
theorem below_then {a b c : World} (h : Below a.heap.size a b) (k : Below b.heap.size b c) : Below a.heap.size a c := h.trans (k.mono h.size)
theorem below_draws (w : World) (q : Nat) : Below w.heap.size w (w.drewN q) := below_drewN (Below.refl _ _) q
theorem below_up {a b : World} {B : Nat} (h : Below b.heap.size b a) (hB : B ≤ b.heap.size) : Below B b a := h.mono hB

theorem info_int : (Try.prog.info? 3).map (fun i => (i.zero, i.size, i.bytes)) = some (some (.int .i64 0), 1, 8) := by kernel_rfl

/-- what a call that only draws leaves alone -/
theorem to_below {P : Program} {f : FuncId} {args : Array Value} {w : World} {E : Ending} (h : Calls P f args w fun e w' => e = E ∧ ∃ q, w' = w.drewN q) :
    Calls P f args w fun e w' => e = E ∧ Below w.heap.size w w' := h.mono fun e w' ⟨h1, q, h2⟩ => ⟨h1, by rw [h2]; exact below_draws w q⟩
theorem to_below' {P : Program} {f : FuncId} {args : Array Value} {w : World} {E : Ending} (h : Calls P f args w fun e w' => e = E ∧ w = w') :
    Calls P f args w fun e w' => e = E ∧ Below w.heap.size w w' := h.mono fun e w' ⟨h1, h2⟩ => ⟨h1, by rw [← h2]; exact Below.refl _ _⟩
/-- the numbers from k on -/
def marks (k : Int) (n : Nat) : List Int := (List.range n).map (fun (i : Nat) => k + (i : Int))
theorem marks_len (k : Int) (n : Nat) : (marks k n).length = n := by simp [marks]
theorem marks_succ (k : Int) (n : Nat) : marks k (n + 1) = marks k n ++ [k + (n : Int)] := by simp [marks, List.range_succ]
theorem set_append_mid {α : Type} (l r : List α) (x y : α) (k : Nat) (hk : l.length = k) : (l ++ x :: r).set k y = (l ++ [y]) ++ r := by
  subst hk; simp
theorem take_succ_get {α : Type} (l : List α) (k : Nat) (h : k < l.length) : l.take (k + 1) = l.take k ++ [l[k]] := by
  rw [List.take_succ_eq_append_getElem h]
theorem drop_get_cons {α : Type} (l : List α) (k : Nat) (h : k < l.length) : l.drop k = l[k] :: l.drop (k + 1) := by
  rw [List.drop_eq_getElem_cons h]
theorem fill_set {α β : Type} (f : α → β) (z : α) (xs : List α) (k : Nat) (h : k < xs.length) : (xs.take (k + 1) ++ List.replicate (xs.length - (k + 1)) z).map f = ((xs.take k ++ List.replicate (xs.length - k) z).map f).set k (f xs[k]) := by
  have e : xs.length - k = (xs.length - (k + 1)) + 1 := by omega
  rw [e, List.replicate_succ, List.map_append, List.map_append, List.map_cons, set_append_mid _ _ _ _ k (by simp; omega), take_succ_get _ _ h, List.map_append]
  rfl
theorem mark_set {β : Type} (f : Int → β) (k0 : Int) (xs : List Int) (k : Nat) (h : k < xs.length) : (marks k0 (k + 1) ++ xs.drop (k + 1)).map f = ((marks k0 k ++ xs.drop k).map f).set k (f (k0 + (k : Int))) := by
  rw [drop_get_cons _ _ h, List.map_append, List.map_append, List.map_cons, set_append_mid _ _ _ _ k (by simp [marks]), marks_succ, List.map_append]
  rfl
theorem get_mid {α β : Type} (f : α → β) (l r : List α) (k : Nat) (hk : l.length = k) (h : k < r.length) : ((l ++ r.drop k).map f)[k]? = some (f r[k]) := by
  subst hk
  rw [List.map_append, List.getElem?_append_right (by simp)]
  simp [h]
theorem ret_int {k : IntKind} {a b : Int} (h : a = b) : Ending.returned (.int k a) = .returned (.int k b) := by rw [h]
theorem ret_bool {a b : Bool} (h : a = b) : Ending.returned (.bool a) = .returned (.bool b) := by rw [h]
end Go.Proofs.Ytngfkajfbgfncaa

/- Appending one cell to a row that the call owns: what is owned behind it, and that no other old block has turned. No condition. -/
namespace Go.Proofs.Ytngfkajfbgfncaa
open Go.RowKit
theorem grown_trans_row {a b c : World} {row : Option Nat} (h : a.grownBy b row) (k : b.grownBy c row) : a.grownBy c row :=
  ⟨k.os.trans h.os, k.tape.trans h.tape, k.output.trans h.output, Nat.le_trans h.size k.size, fun i hi hne => (k.block i (Nat.lt_of_lt_of_le hi h.size) hne).trans (h.block i hi hne)⟩
theorem grown_alloc (w : World) (o : Obj) (row : Option Nat) : w.grownBy (w.alloc o) row := World.grownBy_alloc w o row
theorem grown_draws (w : World) (q : Nat) (row : Option Nat) : w.grownBy (w.drewN q) row := ⟨rfl, rfl, rfl, Nat.le_refl _, fun _ _ _ => rfl⟩
theorem below_of_own {B : Nat} {w0 w w' : World} {row : Option Nat} (h : Below B w0 w) (hg : w.grownBy w' row) (hB : B ≤ w.heap.size) (hr : ∀ g, row = some g → B ≤ g) : Below B w0 w' := h.grown hg hB hr

/-- where the grown row lies: where it lay, or in a new block; and that it is not nil -/
def AppAt (w : World) (v v' : Value) (n : Nat) : Prop := (v'.ownBlock = v.ownBlock ∨ v'.ownBlock = some (w.heap.size + 1)) ∧ ∃ g cap, v' = .slice (some ⟨g, 0, none⟩) n cap
theorem wp_app1 {P : Program} (wr : World) {o : Oper} {a : Act} {K : Act → World → Prop} {Q : Exit → Act → World → Prop} (s x : Operand) (t : TypeId)
    (ho : o.op = .call { callee := .builtin .append, args := #[s, x], argTypes := #[t, t] })
    (base : Nat) (e : TypeId) (i : TypeInfo) (z : Value) (bytes : Nat) (ht : P.underlying t = some (.slice e)) (hi : P.info? e = some i) (hz : i.zero = some z)
    (hsize : i.size = 1) (hby : i.bytes = bytes) (hzs : z.cells.size = 1)
    (v : Value) (xs : List Value) (hs : a.eval s = v) (hown : wr.ownsRow base e 1 v xs.length xs) (X : Value) (hX : X.oneCell' = true)
    {m : Nat} (hx : a.eval x = .slice (some ⟨m, 0, none⟩) 1 1) (hm : m = wr.heap.size) (hlen : xs.length ≤ 1099511627776) (hb : bytes ≤ 64) (hbase : base ≤ wr.heap.size)
    (h : ∀ v' w', w'.ownsRow base e 1 v' (xs ++ [X]).length (xs ++ [X]) → wr.grownBy w' v.ownBlock → AppAt wr v v' (xs.length + 1) → K (a.put o.dst v') w') : o.wp P a (wr.alloc (.cells #[X] e)) K Q := by
  subst hm
  have hown' := hown.alloc (.cells #[X] e)
  have hbytes : (xs.length + 1) * bytes ≤ 140737488355328 := Nat.le_trans (Nat.mul_le_mul_left _ hb) (by omega)
  have hcell : ∀ j u, [X][j]? = some u → (wr.alloc (.cells #[X] e)).cell? ((⟨wr.heap.size, 0, none⟩ : Addr).add j) = some u := by
    intro j u hu
    match j, hu with
    | 0, hu =>
      simp at hu; subst hu
      show (wr.alloc (.cells #[X] e)).cell? ⟨wr.heap.size, 0, none⟩ = some X
      have hh := heap_alloc_new wr (.cells #[X] e)
      unfold World.cell?
      rw [hh]
      rfl
    | j + 1, hu => simp at hu
  obtain ⟨v', w', hrun, h2, h3, h4, h5⟩ := run_append_own_at (P := P) (wr.alloc (.cells #[X] e)) base t o.type e i z 1 bytes ht hi hz hsize hby hzs (by omega) v xs.length xs hown' ⟨wr.heap.size, 0, none⟩ 1 1 [X] rfl hcell
    (by intro u hu; simp at hu; subst hu; exact hX) (by unfold maxLen; omega) hbytes (by simp; omega)
  unfold Oper.wp execOp
  simp only [ho, resolve, invoke, builtin, Sem.run_bind, Sem.run_pure, Result.andThen_ok, List.map_toArray, List.map_cons, List.map_nil, hs, hx, hrun]
  refine h v' w' (by simpa using h2) (grown_trans_row (grown_alloc _ _ _) h3) ⟨by simpa using h5, ?_⟩
  rcases h2.2 with ⟨_, h0⟩ | ⟨g, cap, cur, e1, _⟩
  · omega
  · exact ⟨g, cap, e1⟩

theorem wpList_app1 {P : Program} (wr : World) {ops : Array Oper} {rest : List Oper} {o : Oper} {a : Act} {Q : Exit → Act → World → Prop} (hgd : o.guard = none) (s x : Operand) (t : TypeId)
    (ho : o.op = .call { callee := .builtin .append, args := #[s, x], argTypes := #[t, t] })
    (base : Nat) (e : TypeId) (i : TypeInfo) (z : Value) (bytes : Nat) (ht : P.underlying t = some (.slice e)) (hi : P.info? e = some i) (hz : i.zero = some z)
    (hsize : i.size = 1) (hby : i.bytes = bytes) (hzs : z.cells.size = 1)
    (v : Value) (xs : List Value) (hs : a.eval s = v) (hown : wr.ownsRow base e 1 v xs.length xs) (X : Value) (hX : X.oneCell' = true)
    {m : Nat} (hx : a.eval x = .slice (some ⟨m, 0, none⟩) 1 1) (hm : m = wr.heap.size) (hlen : xs.length ≤ 1099511627776) (hb : bytes ≤ 64) (hbase : base ≤ wr.heap.size)
    (h : ∀ v' w', w'.ownsRow base e 1 v' (xs ++ [X]).length (xs ++ [X]) → wr.grownBy w' v.ownBlock → AppAt wr v v' (xs.length + 1) → wpList P ops Q rest (a.put o.dst v') w') : wpList P ops Q (o :: rest) a (wr.alloc (.cells #[X] e)) :=
  wpList_plain hgd fun _ hK => wp_app1 wr s x t ho base e i z bytes ht hi hz hsize hby hzs v xs hs hown X hX hx hm hlen hb hbase fun v' w' h2 h3 h4 => hK _ _ (h v' w' h2 h3 h4)
/-- the same for a slice of numbers -/
theorem wpList_appI (wr : World) {ops : Array Oper} {rest : List Oper} {o : Oper} {a : Act} {Q : Exit → Act → World → Prop} (hgd : o.guard = none) (s x : Operand)
    (ho : o.op = .call { callee := .builtin .append, args := #[s, x], argTypes := #[33, 33] })
    (base : Nat) (v : Value) (xs : List Int) (hs : a.eval s = v) (hown : OwI wr base v xs) (X : Int)
    {m : Nat} (hx : a.eval x = .slice (some ⟨m, 0, none⟩) 1 1) (hm : m = wr.heap.size) (hlen : xs.length < 1099511627776) (hbase : base ≤ wr.heap.size)
    (h : ∀ v' w', OwI w' base v' (xs ++ [X]) → wr.grownBy w' v.ownBlock → AppAt wr v v' (xs.length + 1) → wpList Try.prog ops Q rest (a.put o.dst v') w') : wpList Try.prog ops Q (o :: rest) a (wr.alloc (.cells #[.int .i64 X] 3)) := by
  obtain ⟨i0, hi, hz0, hz1, hz2⟩ := info_parts info_int
  refine wpList_app1 wr hgd s x 33 ho base 3 i0 (.int .i64 0) 8 Try.underlying33 hi hz0 hz1 hz2 rfl v (xs.map (Value.int .i64)) hs (by simpa using hown.1) (.int .i64 X) rfl hx hm (by simp; omega) (by omega) hbase ?_
  intro v' w' h1 h2 h3
  exact h v' w' ⟨by simpa using h1, by simp; omega⟩ h2 (by simpa using h3)
/-- a slice literal of one number -/
theorem OwI.one (w : World) (x : Int) (base : Nat) (hb : base ≤ w.heap.size) : OwI (w.alloc (.cells #[.int .i64 x] 3)) base (.slice (some ⟨w.heap.size, 0, none⟩) 1 1) [x] := by
  refine ⟨?_, by simp⟩
  have := World.ownsRow_lit (base := base) (e := 3) (size := 1) w #[.int .i64 x] 1 hb (by simp [maxLen]) (by simp)
  simpa using this
theorem OwI.empty_ (w : World) (base : Nat) (hb : base ≤ w.heap.size) : OwI (w.alloc (.cells #[] 3)) base (.slice (some ⟨w.heap.size, 0, none⟩) 0 0) [] := by
  refine ⟨?_, by simp⟩
  have := World.ownsRow_lit (base := base) (e := 3) (size := 1) w #[] 0 hb (by simp [maxLen]) (by simp)
  simpa using this
theorem OwI.cellAt {w : World} {base g cap n : Nat} {xs : List Int} (h : OwI w base (.slice (some ⟨g, 0, none⟩) n cap) xs) (j : Nat) (hj : j < xs.length) : w.cell? ⟨g, j, none⟩ = some (.int .i64 xs[j]) := by
  have hn : n = xs.length := by
    rcases h.shape with ⟨e, _⟩ | ⟨g', cap', e, _⟩
    · cases e
    · injection e
  subst hn
  rw [h.1.cellAt j (by omega)]
  simp [hj]
theorem OwI.len_eq {w : World} {base g cap n : Nat} {xs : List Int} (h : OwI w base (.slice (some ⟨g, 0, none⟩) n cap) xs) : n = xs.length := by
  rcases h.shape with ⟨e, _⟩ | ⟨g', cap', e, _⟩
  · cases e
  · injection e
theorem OwI.frozenAt {w : World} {base g cap n : Nat} {xs : List Int} (h : OwI w base (.slice (some ⟨g, 0, none⟩) n cap) xs) (j : Nat) : w.frozen? ⟨g, j, none⟩ = false := by
  have hn := h.len_eq
  subst hn
  exact h.1.frozenAt j
theorem OwI.stored {w : World} {base g cap n : Nat} {xs : List Int} (h : OwI w base (.slice (some ⟨g, 0, none⟩) n cap) xs) (j : Nat) (x : Int) :
    OwI (w.setCell ⟨g, j, none⟩ (.int .i64 x)) base (.slice (some ⟨g, 0, none⟩) n cap) (xs.set j x) ∧ w.grownBy (w.setCell ⟨g, j, none⟩ (.int .i64 x)) (some g) := by
  have hn := h.len_eq
  subst hn
  obtain ⟨h1, h2⟩ := h.1.stored j (.int .i64 x)
  refine ⟨⟨?_, by simpa using h.2⟩, h2⟩
  rw [List.length_set, List.map_set]
  exact h1
/-- 'make([]int, n)' -/
theorem wpList_makeI (w : World) {ops : Array Oper} {rest : List Oper} {o : Oper} {a : Act} {Q : Exit → Act → World → Prop}
    (hg : o.guard = none) (l c : Operand) (hop : o.op = Op.makeSlice 33 l c) (kl kc : IntKind) (N C : Int) (n : Nat) (hl : a.eval l = .int kl N) (hc : a.eval c = .int kc C) (hL : N = (n : Int)) (hC : C = (n : Int)) (hn : n ≤ 1099511627776)
    (hK : ∀ w', OwI w' w.heap.size (.slice (some ⟨w.heap.size, 0, none⟩) n n) (List.replicate n 0) → Below w.heap.size w w' → wpList Try.prog ops Q rest (a.put o.dst (.slice (some ⟨w.heap.size, 0, none⟩) n n)) w') :
    wpList Try.prog ops Q (o :: rest) a w := by
  obtain ⟨i0, hi, hz0, hz1, hz2⟩ := info_parts info_int
  refine wpList_make_full w hg l c 33 hop w.heap.size 3 i0 (.int .i64 0) 1 Try.underlying33 hi hz0 hz1 kl kc N C n hl hc hL hC (by rw [hz2]; omega) (by unfold maxLen; omega) (Nat.le_refl _) ?_
  intro w' hown hgrow
  rw [show (madeCells (Value.int .i64 0).cells (n * 1)).toList = List.replicate n (.int .i64 0) from by rw [Nat.mul_one]; exact toList_madeCells_one _ _] at hown
  exact hK w' ⟨by simpa using hown, by simpa using hn⟩ ((Below.refl _ _).grown hgrow (Nat.le_refl _) (by simp))
/-- what a call leaves that returns a slice of numbers of its own; with a bool beside it -/
def RetI (w : World) (R : List Int) (e : Ending) (w' : World) : Prop := ∃ r, e = .returned r ∧ OwI w' w.heap.size r R ∧ Below w.heap.size w w'
def RetIB (w : World) (R : List Int × Bool) (e : Ending) (w' : World) : Prop := ∃ r, e = .returned (.tuple #[r, .bool R.2]) ∧ OwI w' w.heap.size r R.1 ∧ Below w.heap.size w w'
theorem RetIB.mk {w w' : World} {R : List Int × Bool} {l : List Int} {b : Bool} {r : Value} (h : R = (l, b)) (hr : OwI w' w.heap.size r l) (hb : Below w.heap.size w w') : RetIB w R (.returned (.tuple #[r, .bool b])) w' := by
  subst h; exact ⟨r, rfl, hr, hb⟩
theorem RetI.mk {w w' : World} {R l : List Int} {r : Value} (h : R = l) (hr : OwI w' w.heap.size r l) (hb : Below w.heap.size w w') : RetI w R (.returned r) w' := by
  subst h; exact ⟨r, rfl, hr, hb⟩
/-- an owned slice stays while another row, or a new block, is written -/
theorem OwI.other {w w' : World} {base : Nat} {v : Value} {xs : List Int} {u : Value} (h : OwI w base v xs) (hg : w.grownBy w' u.ownBlock) (hne : ∀ g, v.ownBlock = some g → u.ownBlock ≠ some g) : OwI w' base v xs := by
  refine h.grown hg ?_
  rcases hv : v.ownBlock with _ | g
  · exact .inl rfl
  · exact .inr fun e => hne g hv e.symm
end Go.Proofs.Ytngfkajfbgfncaa

/- Plain words on words of letters u and d: the height behind each letter, and paths. No condition. -/
namespace Go.Proofs.Ytngfkajfbgfncaa
open Go.RowKit
/-- the letters of a text -/
def L (s : ByteArray) : List UInt8 := s.data.toList
theorem L_len (s : ByteArray) : (L s).length = s.size := by simp [L]
theorem L_get (s : ByteArray) (k : Nat) (h : k < s.size) : (L s)[k]'(by rw [L_len]; exact h) = s[k] := rfl
/-- the height behind one letter more, if there is any -/
def stepD (h : Option Nat) (c : UInt8) : Option Nat :=
  match h with
  | none => none
  | some h => if c.toNat = 117 then some (h + 1) else if c.toNat = 100 then (if h = 0 then none else some (h - 1)) else none
def scan (l : List UInt8) : Option Nat := l.foldl stepD (some 0)
def DyckP (l : List UInt8) : Prop := l.length ≤ 16 ∧ scan l = some 0
instance (l : List UInt8) : Decidable (DyckP l) := by unfold DyckP; exact inferInstance
theorem scan_none (l : List UInt8) : l.foldl stepD none = none := by
  induction l with
  | nil => rfl
  | cons c l ih => exact ih
theorem scan_append (a b : List UInt8) : scan (a ++ b) = b.foldl stepD (scan a) := by simp [scan, List.foldl_append]
theorem scan_succ (l : List UInt8) (k : Nat) (h : k < l.length) : scan (l.take (k + 1)) = stepD (scan (l.take k)) l[k] := by
  rw [List.take_succ_eq_append_getElem h, scan_append]; rfl
theorem scan_stop {l : List UInt8} {k : Nat} (h : scan (l.take k) = none) : scan l = none := by
  rw [← List.take_append_drop k l, scan_append, h, scan_none]
theorem scan_all {s : ByteArray} {k t : Nat} (hk : s.size ≤ k) (h : scan ((L s).take k) = some t) : scan (L s) = some t := by
  rwa [List.take_of_length_le (by rw [L_len]; exact hk)] at h
theorem scan_up {s : ByteArray} {k t : Nat} (hk : k < s.size) (h : scan ((L s).take k) = some t) (hu : s[k].toNat = 117) : scan ((L s).take (k + 1)) = some (t + 1) := by
  rw [scan_succ _ _ (by rw [L_len]; exact hk), h, L_get s k hk]; simp [stepD, hu]
theorem scan_down {s : ByteArray} {k t : Nat} (hk : k < s.size) (h : scan ((L s).take k) = some t) (hd : s[k].toNat = 100) (ht : t ≠ 0) : scan ((L s).take (k + 1)) = some (t - 1) := by
  rw [scan_succ _ _ (by rw [L_len]; exact hk), h, L_get s k hk]; simp [stepD, hd, ht]
theorem scan_fall {s : ByteArray} {k : Nat} (hk : k < s.size) (h : scan ((L s).take k) = some 0) (hd : s[k].toNat = 100) : scan (L s) = none := by
  apply scan_stop (k := k + 1)
  rw [scan_succ _ _ (by rw [L_len]; exact hk), h, L_get s k hk]; simp [stepD, hd]
theorem scan_other {s : ByteArray} {k t : Nat} (hk : k < s.size) (h : scan ((L s).take k) = some t) (hu : ¬ s[k].toNat = 117) (hd : ¬ s[k].toNat = 100) : scan (L s) = none := by
  apply scan_stop (k := k + 1)
  rw [scan_succ _ _ (by rw [L_len]; exact hk), h, L_get s k hk]; simp [stepD, hu, hd]
theorem DyckP.not_of {l : List UInt8} (h : scan l = none) : ¬ DyckP l := fun hd => by rw [hd.2] at h; cases h
theorem dyck_at_end {s : ByteArray} {k t : Nat} (hk : s.size ≤ k) (h : scan ((L s).take k) = some t) : DyckP (L s) ↔ (t = 0 ∧ s.size ≤ 16) := by
  have h := scan_all hk h
  unfold DyckP
  rw [h, L_len]
  constructor
  · rintro ⟨h1, h2⟩; injection h2 with h2; exact ⟨h2, h1⟩
  · rintro ⟨h1, h2⟩; exact ⟨h2, by rw [h1]⟩
/-- the heights at the first k + 1 places -/
def hN (l : List UInt8) (k : Nat) : Nat := (scan (l.take k)).getD 0
def hL (l : List UInt8) (k : Nat) : List Int := (List.range (k + 1)).map fun (i : Nat) => ((hN l i : Nat) : Int)
theorem hL_len (l : List UInt8) (k : Nat) : (hL l k).length = k + 1 := by simp [hL]
theorem hL_zero (l : List UInt8) : hL l 0 = [0] := rfl
theorem hL_succ (l : List UInt8) (k : Nat) : hL l (k + 1) = hL l k ++ [((hN l (k + 1) : Nat) : Int)] := by simp [hL, List.range_succ]
theorem hN_of {l : List UInt8} {k t : Nat} (h : scan (l.take k) = some t) : hN l k = t := by simp [hN, h]
theorem hL_step_up {s : ByteArray} {w w1 : World} {k t : Nat} {v' : Value} (hk : k < s.size) (h : scan ((L s).take k) = some t) (hu : s[k].toNat = 117) (ho : OwI w1 w.heap.size v' (hL (L s) k ++ [((t : Int) + 1)])) :
    scan ((L s).take (k + 1)) = some (t + 1) ∧ OwI w1 w.heap.size v' (hL (L s) (k + 1)) := by
  have h1 := scan_up hk h hu
  refine ⟨h1, ?_⟩
  rw [hL_succ, hN_of h1]
  exact ho
theorem hL_step_down {s : ByteArray} {w w1 : World} {k t : Nat} {v' : Value} (hk : k < s.size) (h : scan ((L s).take k) = some t) (hd : s[k].toNat = 100) (ht : t ≠ 0) (ho : OwI w1 w.heap.size v' (hL (L s) k ++ [((t : Int) - 1)])) :
    scan ((L s).take (k + 1)) = some (t - 1) ∧ OwI w1 w.heap.size v' (hL (L s) (k + 1)) := by
  have h1 := scan_down hk h hd ht
  refine ⟨h1, ?_⟩
  rw [hL_succ, hN_of h1, show ((t - 1 : Nat) : Int) = (t : Int) - 1 from by omega]
  exact ho
end Go.Proofs.Ytngfkajfbgfncaa

/- Contracts of IsDyck and heights: whether a word is a path, and the heights at its places. No condition but the word's size. -/
namespace Go.Proofs.Ytngfkajfbgfncaa
open Go.RowKit
theorem specIsDyck_any (s : ByteArray) (w : World) (hs : s.size ≤ 1099511627776) :
    Calls Try.prog 173 #[.string s] w fun e w' => e = .returned (.bool (decide (DyckP (L s)))) ∧ w = w' := by
  go_enter Try.func173, Try.ntmps173
  go_wp2_with fail
  go_loop [3, 4] (fun h i => ∃ k t : Nat, k ≤ s.size ∧ i = .int .i64 k ∧ h = .int .i64 t ∧ t ≤ k ∧ Hid (scan ((L s).take k) = some t)) (fun _ i => s.size - (intOf i).toNat)
  case atStart => exact ⟨0, 0, by omega, rfl, rfl, by omega, rfl⟩
  case round =>
    obtain ⟨k, t, hk, rfl, rfl, ht, HS⟩ := hrel
    by_cases hlt : k < s.size
    · by_cases hu : s[k].toNat = 117
      · have f1 : (((s[k].toNat : Nat) : Int) == 117) = true := by simp; omega
        have HU := Lib.hid hu
        clear hu
        go_wp2_with fail
        go_round
        case rel => exact ⟨k + 1, t + 1, by omega, by go_num, by go_num, by omega, scan_up hlt HS.out HU.out⟩
        case measure => simp [intOf]; omega
      · have f1 : (((s[k].toNat : Nat) : Int) == 117) = false := by simp; omega
        by_cases hd : s[k].toNat = 100
        · have f2 : (((s[k].toNat : Nat) : Int) == 100) = true := by simp; omega
          have HD := Lib.hid hd
          clear hd hu
          by_cases h0 : t = 0
          · have h00 : t ≤ 0 := by omega
            have H0 := Lib.hid h0
            clear h0
            go_wp2_with fail
            go_ret
            exact ⟨ret_bool (by simp [DyckP.not_of (scan_fall hlt (by rw [HS.out, H0.out]) HD.out)]), rfl⟩
          · go_wp2_with fail
            go_round
            case rel => exact ⟨k + 1, t - 1, by omega, by go_num, by go_num, by omega, scan_down hlt HS.out HD.out (by omega)⟩
            case measure => simp [intOf]; omega
        · have f2 : (((s[k].toNat : Nat) : Int) == 100) = false := by simp; omega
          have HU := Lib.hid hu
          have HD := Lib.hid hd
          clear hd hu
          go_wp2_with fail
          go_ret
          exact ⟨ret_bool (by simp [DyckP.not_of (scan_other hlt HS.out HU.out HD.out)]), rfl⟩
    · have H := Lib.hid (show DyckP (L s) ↔ (t = 0 ∧ s.size ≤ 16) from dyck_at_end (by omega) HS.out)
      by_cases h0 : t = 0
      · subst h0
        go_wp2_with fail
        go_ret
        exact ⟨ret_bool (by simp [H.out]; omega), rfl⟩
      · have f0 : ((t : Int) == 0) = false := by simp; omega
        go_wp2_with fail
        go_ret
        exact ⟨ret_bool (by simp [H.out, h0]), rfl⟩
set_option maxHeartbeats 1000000 in
theorem heights_any (s : ByteArray) (w : World) (hs : s.size ≤ 1048576) :
    Calls Try.prog 241 #[.string s] w fun e w' => ∃ r, e = .returned (.tuple #[r, .bool (decide (scan (L s) = some 0))]) ∧ (scan (L s) = some 0 → OwI w' w.heap.size r (hL (L s) s.size)) ∧ Below w.heap.size w w' := by
  go_enter Try.func241, Try.ntmps241
  go_wp2_with fail
  go_loopw [4, 5, 6] (fun v h i wr => ∃ k t : Nat, k ≤ s.size ∧ i = .int .i64 k ∧ h = .int .i64 t ∧ t ≤ k ∧ Hid (scan ((L s).take k) = some t) ∧ OwI wr w.heap.size v (hL (L s) k) ∧ Below w.heap.size w wr) (fun _ _ i _ => s.size - (intOf i).toNat)
  case atStart => exact ⟨0, 0, by omega, rfl, rfl, by omega, rfl, by rw [hL_zero]; exact OwI.one w 0 _ (Nat.le_refl _), (Below.refl _ _).alloc (Nat.le_refl _) _⟩
  case round =>
    obtain ⟨k, t, hk, rfl, rfl, ht, HS, hown, hB⟩ := hrel
    have hBs := hB.size
    by_cases hlt : k < s.size
    · by_cases hu : s[k].toNat = 117
      · have f1 : (((s[k].toNat : Nat) : Int) == 117) = true := by simp; omega
        have HU := Lib.hid hu
        clear hu
        go_wp2_with (at_builtin; refine wpList_appI _ rfl _ _ rfl w.heap.size _ _ rfl hown _ rfl rfl ?hl1 ?hb1 ?_)
        case hl1 => rw [hL_len]; omega
        case hb1 => exact hBs
        intro v' w1 hown1 hg1 hat1
        have R := hL_step_up (w := w) hlt HS.out HU.out hown1
        have hB1 := below_of_own hB hg1 hBs (fun g hg => (hown.lt g hg).1)
        clear hown1 hg1 hown hB
        go_wp2_with fail
        go_roundw
        case rel => exact ⟨k + 1, t + 1, by omega, by go_num, by go_num, by omega, R.1, R.2, hB1⟩
        case measure => simp [intOf]; omega
      · have f1 : (((s[k].toNat : Nat) : Int) == 117) = false := by simp; omega
        by_cases hd : s[k].toNat = 100
        · have f2 : (((s[k].toNat : Nat) : Int) == 100) = true := by simp; omega
          have HD := Lib.hid hd
          clear hd hu
          by_cases h0 : t = 0
          · have h00 : t ≤ 0 := by omega
            have H0 := Lib.hid h0
            clear h0
            go_wp2_with fail
            go_ret2
            have := scan_fall hlt (by rw [HS.out, H0.out]) HD.out
            exact ⟨.slice none 0 0, by simp [this], by simp [this], hB⟩
          · go_wp2_with (at_builtin; refine wpList_appI _ rfl _ _ rfl w.heap.size _ _ rfl hown _ rfl rfl ?hl2 ?hb2 ?_)
            case hl2 => rw [hL_len]; omega
            case hb2 => exact hBs
            intro v' w1 hown1 hg1 hat1
            have R := hL_step_down (w := w) hlt HS.out HD.out (by omega) hown1
            have hB1 := below_of_own hB hg1 hBs (fun g hg => (hown.lt g hg).1)
            clear hown1 hg1 hown hB
            go_wp2_with fail
            go_roundw
            case rel => exact ⟨k + 1, t - 1, by omega, by go_num, by go_num, by omega, R.1, R.2, hB1⟩
            case measure => simp [intOf]; omega
        · have f2 : (((s[k].toNat : Nat) : Int) == 100) = false := by simp; omega
          have HU := Lib.hid hu
          have HD := Lib.hid hd
          clear hd hu
          go_wp2_with fail
          go_ret2
          have := scan_other hlt HS.out HU.out HD.out
          exact ⟨.slice none 0 0, by simp [this], by simp [this], hB⟩
    · have H := Lib.hid (show scan (L s) = some t from scan_all (by omega) HS.out)
      have hke : k = s.size := by omega
      go_wp2_with fail
      go_ret2
      subst hke
      refine ⟨_, ?_, fun _ => hown, hB⟩
      rw [H.out]
      congr 4
      by_cases h0 : t = 0 <;> simp [h0]
theorem implIsDyck_any (s : ByteArray) (w : World) :
    Calls Try.prog 172 #[.string s] w fun e w' => e = .returned (.bool (decide (DyckP (L s)))) ∧ Below w.heap.size w w' := by
  by_cases h16 : s.size ≤ 16
  · have H := Lib.hid (show DyckP (L s) ↔ scan (L s) = some 0 from ⟨fun h => h.2, fun h => ⟨by rw [L_len]; exact h16, h⟩⟩)
    go_enter Try.func172, Try.ntmps172
    go_wp2_with fail
    refine (heights_any s _ (by omega)).mono ?_; rintro e w1 ⟨r, rfl, hr, b1⟩
    go_wp2_with fail
    go_ret
    exact ⟨ret_bool (by simp [H.out]), b1⟩
  · have H := Lib.hid (show ¬ DyckP (L s) from fun h => h16 (by have := h.1; rw [L_len] at this; exact this))
    go_enter Try.func172, Try.ntmps172
    go_wp2_with fail
    go_ret
    exact ⟨ret_bool (by simp [H.out]), Below.refl _ _⟩
end Go.Proofs.Ytngfkajfbgfncaa

/- Plain words on parking functions over a path: choices, runs, products. No condition. -/
namespace Go.Proofs.Ytngfkajfbgfncaa
/-- choices of k out of n -/
def ch : Nat → Nat → Nat
  | _, 0 => 1
  | 0, _ + 1 => 0
  | n + 1, k + 1 => ch n k + ch n (k + 1)
theorem ch_le : ∀ n < 7, ∀ k < 7, ch n k ≤ 20 := by decide
theorem ch_step : ∀ n < 7, ∀ i < n, ch n i * (n - i) / (i + 1) = ch n (i + 1) := by decide
theorem ch_step2 : ∀ m < 7, ∀ i < 7, m + i < 6 → ch (m + i) i * (m + (i + 1)) / (i + 1) = ch (m + (i + 1)) (i + 1) := by decide
theorem ch_mul_le : ∀ n < 7, ∀ i < 7, ∀ j < 7, ch n i * j ≤ 1000 := by decide
/-- letters u -/
def cu (l : List UInt8) : Nat := l.countP (fun c => c.toNat = 117)
theorem cu_append (a b : List UInt8) : cu (a ++ b) = cu a + cu b := by simp [cu, List.countP_append]
theorem cu_take_le (l : List UInt8) (k : Nat) : cu (l.take k) ≤ cu l := by
  have h := cu_append (l.take k) (l.drop k)
  rw [List.take_append_drop] at h
  omega
theorem fold_count : ∀ (l : List UInt8) (h0 h : Nat), l.foldl stepD (some h0) = some h → h + l.length = h0 + 2 * cu l := by
  intro l
  induction l with
  | nil => intro h0 h e; injection e with e; simp [cu]; omega
  | cons c l ih =>
    intro h0 h e
    simp only [List.foldl_cons] at e
    by_cases hu : c.toNat = 117
    · have e1 : stepD (some h0) c = some (h0 + 1) := by simp [stepD, hu]
      rw [e1] at e
      have := ih _ _ e
      have hc : cu (c :: l) = cu l + 1 := by simp [cu, List.countP_cons, hu]
      simp only [List.length_cons]
      omega
    · have hc : cu (c :: l) = cu l := by simp [cu, List.countP_cons, hu]
      by_cases hd : c.toNat = 100
      · by_cases h00 : h0 = 0
        · have e1 : stepD (some h0) c = none := by simp [stepD, hd, h00]
          rw [e1, scan_none] at e; cases e
        · have e1 : stepD (some h0) c = some (h0 - 1) := by simp [stepD, hd, h00]
          rw [e1] at e
          have := ih _ _ e
          simp only [List.length_cons]
          omega
      · have e1 : stepD (some h0) c = none := by simp [stepD, hu, hd]
        rw [e1, scan_none] at e; cases e
theorem dyck_half {l : List UInt8} (h : DyckP l) : 2 * cu l = l.length := by
  have := fold_count l 0 0 h.2
  omega
/-- the product, the cars left, the run -/
def pkF (s : Nat × Nat × Nat) (c : UInt8) : Nat × Nat × Nat := if c.toNat = 117 then (s.1, s.2.1, s.2.2 + 1) else (s.1 * ch s.2.1 s.2.2, s.2.1 - s.2.2, 0)
def pkS (l : List UInt8) (k : Nat) : Nat × Nat × Nat := (l.take k).foldl pkF (1, l.length / 2, 0)
theorem pkS_succ (l : List UInt8) (k : Nat) (h : k < l.length) : pkS l (k + 1) = pkF (pkS l k) l[k] := by
  unfold pkS
  rw [List.take_succ_eq_append_getElem h, List.foldl_append]; rfl
def pkV (l : List UInt8) : Int := if DyckP l ∧ l.length / 2 ≤ 6 then ((pkS l l.length).1 : Nat) else -1
/-- what holds ahead of each letter -/
def PkInv (l : List UInt8) (k x lf rn : Nat) : Prop := pkS l k = (x, lf, rn) ∧ cu (l.take k) + lf = l.length / 2 + rn ∧ x ≤ 20 ^ k
theorem PkInv.start (l : List UInt8) : PkInv l 0 1 (l.length / 2) 0 := ⟨rfl, by simp [cu], by simp⟩
theorem PkInv.run_le {l : List UInt8} {k x lf rn : Nat} (h : PkInv l k x lf rn) (hd : DyckP l) : rn ≤ lf ∧ lf ≤ l.length / 2 := by
  have h1 := cu_take_le l k
  have h2 := dyck_half hd
  have h3 := h.2.1
  refine ⟨by omega, ?_⟩
  have : rn ≤ cu (l.take k) := by
    have key : ∀ k, (pkS l k).2.2 ≤ cu (l.take k) := by
      intro k
      induction k with
      | zero => simp [pkS]
      | succ k ih =>
        rcases Nat.lt_or_ge k l.length with hk | hk
        · rw [pkS_succ l k hk, List.take_succ_eq_append_getElem hk, cu_append]
          unfold pkF
          split
          · rename_i hu
            simp [cu, hu] at ih ⊢; omega
          · simp
        · have e1 : l.take (k + 1) = l.take k := by rw [List.take_of_length_le (by omega), List.take_of_length_le hk]
          have e2 : pkS l (k + 1) = pkS l k := by unfold pkS; rw [e1]
          rw [e1, e2]; exact ih
    have := key k
    rw [h.1] at this
    exact this
  omega
theorem PkInv.up {l : List UInt8} {k x lf rn : Nat} (h : PkInv l k x lf rn) (hk : k < l.length) (hu : l[k].toNat = 117) : PkInv l (k + 1) x lf (rn + 1) := by
  refine ⟨by rw [pkS_succ l k hk, h.1]; simp [pkF, hu], ?_, Nat.le_trans h.2.2 (Nat.pow_le_pow_right (by omega) (by omega))⟩
  rw [List.take_succ_eq_append_getElem hk, cu_append]
  have := h.2.1
  have e : cu [l[k]] = 1 := by simp [cu, hu]
  omega
theorem PkInv.down {l : List UInt8} {k x lf rn : Nat} (h : PkInv l k x lf rn) (hk : k < l.length) (hd : ¬ l[k].toNat = 117) (hD : DyckP l) (h6 : l.length / 2 ≤ 6) : PkInv l (k + 1) (x * ch lf rn) (lf - rn) 0 := by
  have hr := h.run_le hD
  refine ⟨by rw [pkS_succ l k hk, h.1]; simp [pkF, hd], ?_, ?_⟩
  · rw [List.take_succ_eq_append_getElem hk, cu_append]
    have := h.2.1
    have e : cu [l[k]] = 0 := by simp [cu, hd]
    omega
  · rw [Nat.pow_succ]
    exact Nat.mul_le_mul h.2.2 (ch_le lf (by omega) rn (by omega))
theorem PkInv.bound {l : List UInt8} {k x lf rn : Nat} (h : PkInv l k x lf rn) (hk : k ≤ 12) : x ≤ 4096000000000000 :=
  Nat.le_trans h.2.2 (Nat.le_trans (Nat.pow_le_pow_right (by omega) hk) (by decide))
end Go.Proofs.Ytngfkajfbgfncaa

/- Plain words on the permutation of a path: a stack, letter by letter. No condition. -/
namespace Go.Proofs.Ytngfkajfbgfncaa
structure PoS where
  p : List Int
  st : List Int
  n : Nat
  k : Nat
def poF (s : PoS) (c : UInt8) : PoS := if c.toNat = 117 then ⟨s.p, s.st ++ [(s.n : Int)], s.n + 1, s.k⟩ else ⟨s.p.set (s.st.getLastD 0).toNat (s.k : Int), s.st.dropLast, s.n, s.k + 1⟩
def poS (l : List UInt8) (k : Nat) : PoS := (l.take k).foldl poF ⟨List.replicate (l.length / 2) 0, [], 0, 0⟩
theorem poS_succ (l : List UInt8) (k : Nat) (h : k < l.length) : poS l (k + 1) = poF (poS l k) l[k] := by
  unfold poS
  rw [List.take_succ_eq_append_getElem h, List.foldl_append]; rfl
def poR (l : List UInt8) : List Int × Bool := if DyckP l then ((poS l l.length).p, true) else ([], false)
/-- in a path each letter is u or d, and there is height ahead of each d -/
theorem dyck_letter {l : List UInt8} (h : DyckP l) {k : Nat} (hk : k < l.length) : l[k].toNat = 117 ∨ l[k].toNat = 100 := by
  rcases Nat.decEq l[k].toNat 117 with hu | hu
  · rcases Nat.decEq l[k].toNat 100 with hd | hd
    · have : scan l = none := by
        apply scan_stop (k := k + 1)
        rw [scan_succ _ _ hk]
        cases hs : scan (l.take k) with
        | none => rfl
        | some t => simp [stepD, hu, hd]
      rw [h.2] at this; cases this
    · exact .inr hd
  · exact .inl hu
theorem dyck_some {l : List UInt8} (h : DyckP l) (k : Nat) : ∃ t, scan (l.take k) = some t := by
  cases hs : scan (l.take k) with
  | none => have := scan_stop hs; rw [h.2] at this; cases this
  | some t => exact ⟨t, rfl⟩
theorem dyck_pos {l : List UInt8} (h : DyckP l) {k t : Nat} (hk : k < l.length) (hd : ¬ l[k].toNat = 117) (ht : scan (l.take k) = some t) : t ≠ 0 ∧ scan (l.take (k + 1)) = some (t - 1) := by
  have hd' : l[k].toNat = 100 := (dyck_letter h hk).resolve_left hd
  have hs := scan_succ l k hk
  rw [ht] at hs
  by_cases h0 : t = 0
  · subst h0
    simp [stepD, hd'] at hs
    have := scan_stop hs
    rw [h.2] at this; cases this
  · refine ⟨h0, ?_⟩
    rw [hs]; simp [stepD, hd', h0]
theorem dyck_up {l : List UInt8} {k t : Nat} (hk : k < l.length) (hu : l[k].toNat = 117) (ht : scan (l.take k) = some t) : scan (l.take (k + 1)) = some (t + 1) := by
  rw [scan_succ l k hk, ht]; simp [stepD, hu]
/-- what holds ahead of each letter -/
structure PoInv (l : List UInt8) (k : Nat) (s : PoS) : Prop where
  is : poS l k = s
  len : s.p.length = l.length / 2
  ht : scan (l.take k) = some s.st.length
  mem : ∀ x ∈ s.st, 0 ≤ x ∧ x < (l.length / 2 : Nat)
  cnt : s.n = cu (l.take k)
  kle : s.k ≤ k
theorem PoInv.start (l : List UInt8) : PoInv l 0 ⟨List.replicate (l.length / 2) 0, [], 0, 0⟩ := ⟨rfl, by simp, rfl, by simp, by simp [cu], Nat.le_refl _⟩
theorem PoInv.n_lt {l : List UInt8} {k : Nat} {s : PoS} (h : PoInv l k s) (hd : DyckP l) (hk : k < l.length) (hu : l[k].toNat = 117) : s.n < l.length / 2 := by
  have h1 := cu_take_le l (k + 1)
  have h2 := dyck_half hd
  rw [List.take_succ_eq_append_getElem hk, cu_append] at h1
  have e : cu [l[k]] = 1 := by simp [cu, hu]
  have := h.cnt
  omega
theorem PoInv.up {l : List UInt8} {k : Nat} {s : PoS} (h : PoInv l k s) (hd : DyckP l) (hk : k < l.length) (hu : l[k].toNat = 117) : PoInv l (k + 1) ⟨s.p, s.st ++ [(s.n : Int)], s.n + 1, s.k⟩ := by
  have hn := h.n_lt hd hk hu
  refine ⟨by rw [poS_succ l k hk, h.is]; simp [poF, hu], h.len, by rw [dyck_up hk hu h.ht]; simp, fun x hx => ?_, ?_, Nat.le_succ_of_le h.kle⟩
  · rcases List.mem_append.1 hx with hx | hx
    · exact h.mem x hx
    · simp at hx; subst hx; exact ⟨by omega, by omega⟩
  · rw [List.take_succ_eq_append_getElem hk, cu_append]
    have e : cu [l[k]] = 1 := by simp [cu, hu]
    have := h.cnt
    simp only
    omega
theorem PoInv.nonempty {l : List UInt8} {k : Nat} {s : PoS} (h : PoInv l k s) (hd : DyckP l) (hk : k < l.length) (hu : ¬ l[k].toNat = 117) : ∃ (ys : List Int) (x : Int), s.st = ys ++ [x] ∧ 0 ≤ x ∧ x < (l.length / 2 : Nat) := by
  have hp := (dyck_pos hd hk hu h.ht).1
  rcases List.eq_nil_or_concat s.st with e | ⟨ys, x, e⟩
  · rw [e] at hp; exact absurd rfl hp
  · have hm := h.mem x (by rw [e]; simp)
    exact ⟨ys, x, by rw [e]; simp, hm.1, hm.2⟩
theorem PoInv.down {l : List UInt8} {k : Nat} {s : PoS} (h : PoInv l k s) (hd : DyckP l) (hk : k < l.length) (hu : ¬ l[k].toNat = 117) {ys : List Int} {x : Int} (e : s.st = ys ++ [x]) : PoInv l (k + 1) ⟨s.p.set x.toNat (s.k : Int), ys, s.n, s.k + 1⟩ := by
  have hp := dyck_pos hd hk hu h.ht
  have hg : s.st.getLastD 0 = x := by rw [e]; simp
  have hdl : s.st.dropLast = ys := by rw [e]; simp
  refine ⟨by rw [poS_succ l k hk, h.is]; unfold poF; rw [if_neg hu, hg, hdl], by simpa using h.len, by rw [hp.2, e]; simp, fun y hy => h.mem y (by rw [e]; exact List.mem_append_left _ hy), ?_, Nat.succ_le_succ h.kle⟩
  rw [List.take_succ_eq_append_getElem hk, cu_append]
  have e1 : cu [l[k]] = 0 := by simp [cu, hu]
  have := h.cnt
  simp only
  omega
end Go.Proofs.Ytngfkajfbgfncaa

/- Plain words on the partners of the letters of a path. No condition. -/
namespace Go.Proofs.Ytngfkajfbgfncaa
/-- letter i, a u, and letter j, a d, belong together -/
def Arc (l : List UInt8) (i j : Nat) : Prop := i < j ∧ j < l.length ∧ hN l (j + 1) = hN l i ∧ ∀ x, i < x → x ≤ j → hN l i < hN l x
def Pr (l : List UInt8) (i j : Nat) : Prop := Arc l i j ∨ Arc l j i
theorem hN_scan {l : List UInt8} (h : DyckP l) (k : Nat) : scan (l.take k) = some (hN l k) := by
  obtain ⟨t, ht⟩ := dyck_some h k
  rw [hN_of ht, ht]
theorem hN_up {l : List UInt8} (h : DyckP l) {k : Nat} (hk : k < l.length) (hu : l[k].toNat = 117) : hN l (k + 1) = hN l k + 1 :=
  hN_of (dyck_up hk hu (hN_scan h k))
theorem hN_down {l : List UInt8} (h : DyckP l) {k : Nat} (hk : k < l.length) (hu : ¬ l[k].toNat = 117) : hN l k ≠ 0 ∧ hN l (k + 1) = hN l k - 1 := by
  obtain ⟨h0, h1⟩ := dyck_pos h hk hu (hN_scan h k)
  exact ⟨h0, hN_of h1⟩
theorem hN_end {l : List UInt8} (h : DyckP l) : hN l l.length = 0 := by
  have := h.2
  rw [← List.take_length (l := l)] at this
  exact hN_of this
theorem hN_zero (l : List UInt8) : hN l 0 = 0 := rfl
theorem hN_le (l : List UInt8) (h : DyckP l) : ∀ k, k ≤ l.length → hN l k ≤ k := by
  intro k
  induction k with
  | zero => intro _; exact Nat.le_refl _
  | succ k ih =>
    intro hk
    have := ih (by omega)
    rcases Nat.decEq (l[k]'hk).toNat 117 with hu | hu
    · have := hN_down h hk hu; omega
    · have := hN_up h hk hu; omega
theorem Arc.left {l : List UInt8} (h : DyckP l) {i j : Nat} (a : Arc l i j) : ∃ hi : i < l.length, l[i].toNat = 117 := by
  obtain ⟨h1, h2, h3, h4⟩ := a
  have hi : i < l.length := by omega
  refine ⟨hi, ?_⟩
  rcases Nat.decEq (l[i]).toNat 117 with hu | hu
  · have := hN_down h hi hu
    have := h4 (i + 1) (by omega) (by omega)
    omega
  · exact hu
theorem Arc.right {l : List UInt8} (h : DyckP l) {i j : Nat} (a : Arc l i j) : ∃ hj : j < l.length, ¬ l[j].toNat = 117 := by
  obtain ⟨h1, h2, h3, h4⟩ := a
  refine ⟨h2, fun hu => ?_⟩
  have := hN_up h h2 hu
  have := h4 j h1 (Nat.le_refl _)
  omega
/-- the program's stack -/
structure PtS where
  out : List Int
  st : List Int
def ptF (s : PtS) (k : Nat) (c : UInt8) : PtS := if c.toNat = 117 then ⟨s.out, s.st ++ [(k : Int)]⟩ else ⟨(s.out.set k (s.st.getLastD 0)).set (s.st.getLastD 0).toNat (k : Int), s.st.dropLast⟩
def ptS (l : List UInt8) (k : Nat) : PtS := (List.range k).foldl (fun s i => ptF s i (l.getD i 0)) ⟨List.replicate l.length 0, []⟩
theorem ptS_succ {l : List UInt8} {k : Nat} (h : k < l.length) : ptS l (k + 1) = ptF (ptS l k) k l[k] := by
  simp only [ptS, List.range_succ, List.foldl_append, List.foldl_cons, List.foldl_nil, getD_of h]
structure PtInv (l : List UInt8) (k : Nat) (s : PtS) : Prop where
  is : ptS l k = s
  len : s.out.length = l.length
  ht : hN l k = s.st.length
  stk : ∀ r (_ : r < s.st.length), ∃ j : Nat, s.st[r] = (j : Int) ∧ j < k ∧ hN l j = r ∧ ∀ x, j < x → x ≤ k → r < hN l x
  done : ∀ i, i < k → (∃ j : Nat, s.out.getD i 0 = (j : Int) ∧ Pr l i j) ∨ ((i : Int) ∈ s.st)
theorem PtInv.start (l : List UInt8) : PtInv l 0 ⟨List.replicate l.length 0, []⟩ :=
  ⟨rfl, by simp, rfl, fun r hr => by simp at hr, fun i hi => by omega⟩
theorem PtInv.up {l : List UInt8} {k : Nat} {s : PtS} (h : PtInv l k s) (hd : DyckP l) (hk : k < l.length) (hu : l[k].toNat = 117) : PtInv l (k + 1) ⟨s.out, s.st ++ [(k : Int)]⟩ := by
  have hs := hN_up hd hk hu
  have ht := h.ht
  refine ⟨by rw [ptS_succ hk, h.is]; unfold ptF; rw [if_pos hu], h.len, by rw [hs, ht]; simp, fun r hr => ?_, fun i hi => ?_⟩
  · rw [List.length_append, List.length_singleton] at hr
    rcases Nat.lt_or_ge r s.st.length with hl | hl
    · obtain ⟨j, h1, h2, h3, h4⟩ := h.stk r hl
      refine ⟨j, by rw [List.getElem_append_left hl]; exact h1, by omega, h3, fun x hx1 hx2 => ?_⟩
      rcases Nat.lt_or_ge k x with hx | hx
      · obtain rfl : x = k + 1 := by omega
        omega
      · exact h4 x hx1 hx
    · obtain rfl : r = s.st.length := by omega
      refine ⟨k, by rw [List.getElem_append_right (Nat.le_refl _)]; simp, by omega, ht, fun x hx1 hx2 => ?_⟩
      obtain rfl : x = k + 1 := by omega
      omega
  · rcases Nat.lt_or_ge i k with hl | hl
    · rcases h.done i hl with h1 | h1
      · exact .inl h1
      · exact .inr (List.mem_append_left _ h1)
    · obtain rfl : i = k := by omega
      exact .inr (by simp)
theorem PtInv.top {l : List UInt8} {k : Nat} {s : PtS} (h : PtInv l k s) (hd : DyckP l) (hk : k < l.length) (hu : ¬ l[k].toNat = 117) : ∃ (ys : List Int) (j : Nat), s.st = ys ++ [(j : Int)] ∧ j < k ∧ Arc l j k := by
  have hs := hN_down hd hk hu
  have ht := h.ht
  rcases List.eq_nil_or_concat s.st with e | ⟨ys, x, e⟩
  · rw [e] at ht; exact absurd ht hs.1
  · rw [List.concat_eq_append] at e
    have hlen : s.st.length = ys.length + 1 := by rw [e]; simp
    obtain ⟨j, h1, h2, h3, h4⟩ := h.stk ys.length (by omega)
    have hx : s.st[ys.length]'(by omega) = x := by
      simp only [e]
      rw [List.getElem_append_right (Nat.le_refl _)]; simp
    rw [hx] at h1
    subst h1
    refine ⟨ys, j, e, h2, h2, hk, by omega, fun y hy1 hy2 => ?_⟩
    have := h4 y hy1 hy2
    omega
theorem PtInv.down {l : List UInt8} {k : Nat} {s : PtS} (h : PtInv l k s) (hd : DyckP l) (hk : k < l.length) (hu : ¬ l[k].toNat = 117) {ys : List Int} {j : Nat} (e : s.st = ys ++ [(j : Int)]) (hj : j < k) (ha : Arc l j k) :
    PtInv l (k + 1) ⟨(s.out.set k (j : Int)).set j (k : Int), ys⟩ := by
  have hs := hN_down hd hk hu
  have ht := h.ht
  have hlen : s.st.length = ys.length + 1 := by rw [e]; simp
  have hg : s.st.getLastD 0 = (j : Int) := by rw [e]; simp
  have hdl : s.st.dropLast = ys := by rw [e]; simp
  have hol := h.len
  refine ⟨by rw [ptS_succ hk, h.is]; unfold ptF; rw [if_neg hu, hg, hdl, Int.toNat_natCast], by simpa using hol, by show hN l (k + 1) = ys.length; omega, fun r hr => ?_, fun i hi => ?_⟩
  · obtain ⟨q, h1, h2, h3, h4⟩ := h.stk r (by show r < s.st.length; have : r < ys.length := hr; omega)
    have hr' : r < ys.length := hr
    refine ⟨q, ?_, by omega, h3, fun x hx1 hx2 => ?_⟩
    · rw [← h1]
      simp only [e]
      rw [List.getElem_append_left hr']
    · rcases Nat.lt_or_ge k x with hx | hx
      · obtain rfl : x = k + 1 := by omega
        omega
      · exact h4 x hx1 hx
  · by_cases hij : i = j
    · subst hij
      refine .inl ⟨k, ?_, .inl ha⟩
      have h1 : i < ((s.out.set k (i : Int)).set i (k : Int)).length := by simp; omega
      show ((s.out.set k (i : Int)).set i (k : Int)).getD i 0 = _
      rw [getD_of h1, List.getElem_set_self]
    · by_cases hik : i = k
      · subst hik
        refine .inl ⟨j, ?_, .inr ha⟩
        have h1 : i < ((s.out.set i (j : Int)).set j (i : Int)).length := by simp; omega
        show ((s.out.set i (j : Int)).set j (i : Int)).getD i 0 = _
        rw [getD_of h1, List.getElem_set_ne (fun h => hij h.symm), List.getElem_set_self]
      · have he : ((s.out.set k (j : Int)).set j (k : Int)).getD i 0 = s.out.getD i 0 := by
          simp only [List.getD]
          rw [List.getElem?_set_ne (fun h => hij h.symm), List.getElem?_set_ne (fun h => hik h.symm)]
        rcases h.done i (by omega) with ⟨q, h1, h2⟩ | h1
        · exact .inl ⟨q, he.trans h1, h2⟩
        · rw [e] at h1
          rcases List.mem_append.1 h1 with h1 | h1
          · exact .inr h1
          · have : (i : Int) = (j : Int) := by simpa using h1
            exact absurd (by omega) hij
def prt (l : List UInt8) : List Int := (ptS l l.length).out
def mofR (l : List UInt8) : List Int × Bool := if DyckP l then (prt l, true) else ([], false)
theorem PtInv.all {l : List UInt8} (hd : DyckP l) : ∀ k, k ≤ l.length → PtInv l k (ptS l k) := by
  intro k
  induction k with
  | zero => intro _; exact PtInv.start l
  | succ k ih =>
    intro hk
    have h := ih (by omega)
    rcases Nat.decEq (l[k]'hk).toNat 117 with hu | hu
    · obtain ⟨ys, j, e, hj, ha⟩ := h.top hd hk hu
      have := h.down hd hk hu e hj ha
      rw [this.is]; exact this
    · have := h.up hd hk hu
      rw [this.is]; exact this
theorem prt_len {l : List UInt8} (hd : DyckP l) : (prt l).length = l.length := (PtInv.all hd _ (Nat.le_refl _)).len
theorem prt_at {l : List UInt8} (hd : DyckP l) {i : Nat} (hi : i < l.length) : ∃ j : Nat, (prt l).getD i 0 = (j : Int) ∧ Pr l i j := by
  have h := PtInv.all hd _ (Nat.le_refl _)
  rcases h.done i hi with h1 | h1
  · exact h1
  · have ht := h.ht
    rw [hN_end hd] at ht
    rw [List.eq_nil_of_length_eq_zero ht.symm] at h1
    cases h1
theorem prt_get {l : List UInt8} (hd : DyckP l) {i : Nat} (hi : i < l.length) : ∃ j : Nat, (prt l)[i]'(by rw [prt_len hd]; exact hi) = (j : Int) ∧ Pr l i j := by
  obtain ⟨j, h1, h2⟩ := prt_at hd hi
  exact ⟨j, by rw [← h1, getD_of (by rw [prt_len hd]; exact hi)], h2⟩
end Go.Proofs.Ytngfkajfbgfncaa

/- Contracts of HeightsOf, the program's and the reference's: both return the heights. No condition but the word's size. -/
namespace Go.Proofs.Ytngfkajfbgfncaa
open Go.RowKit
def hhB (l : List UInt8) (k : Nat) : List Int := (List.range k).map fun (i : Nat) => ((hN l i : Nat) : Int)
theorem hhB_succ (l : List UInt8) (k : Nat) : hhB l (k + 1) = hhB l k ++ [((hN l k : Nat) : Int)] := by simp [hhB, List.range_succ]
theorem hhB_len (l : List UInt8) (k : Nat) : (hhB l k).length = k := by simp [hhB]
theorem hhB_is (l : List UInt8) (k : Nat) : hhB l (k + 1) = hL l k := rfl
def hoR (l : List UInt8) : List Int := if DyckP l then hL l l.length else []
set_option maxHeartbeats 1000000 in
theorem specHeightsOf_any (s : ByteArray) (w : World) (hs : s.size ≤ 1099511627776) :
    Calls Try.prog 183 #[.string s] w (RetI w (hoR (L s))) := by
  have own0 := OwI.empty_ w w.heap.size (Nat.le_refl _)
  have hB0 : Below w.heap.size w (w.alloc (.cells #[] 3)) := (Below.refl _ _).alloc (Nat.le_refl _) _
  by_cases hp : DyckP (L s)
  · have hl16 := hp.1
    rw [L_len] at hl16
    have HV := Lib.hid (show hoR (L s) = hhB (L s) (s.size + 1) by unfold hoR; rw [if_pos hp, hhB_is, L_len])
    have HD := Lib.hid hp
    have HI : Hid (∀ wq, Calls Try.prog 173 #[.string s] wq fun e w' => e = .returned (.bool true) ∧ wq = w') := fun wq => (specIsDyck_any s wq hs).mono fun e w' h => ⟨by rw [h.1]; simp [hp], h.2⟩
    clear hp
    go_enter Try.func183, Try.ntmps183
    go_wp2_with (go_at_call 173; refine (HI.out _).mono ?_; rintro e w' ⟨rfl, rfl⟩)
    generalize w.alloc (.cells #[] 3) = w0 at own0 hB0 ⊢
    go_loopw [3, 4, 5] (fun v h i wr => ∃ k t : Nat, k ≤ s.size ∧ i = .int .i64 k ∧ h = .int .i64 (t : Int) ∧ t ≤ k ∧ Hid (hN (L s) k = t) ∧ OwI wr w.heap.size v (hhB (L s) k) ∧ Below w.heap.size w wr) (fun _ _ i _ => s.size - (intOf i).toNat)
    case atStart => exact ⟨0, 0, by omega, rfl, rfl, by omega, rfl, own0, hB0⟩
    case round =>
      clear own0 hB0
      obtain ⟨k, t, hk, rfl, rfl, ht, HT, hown, hB⟩ := hrel
      have hsz := hB.size
      have hlen : (hhB (L s) k).length < 1099511627776 := by rw [hhB_len]; omega
      have HS := Lib.hid (show hhB (L s) (k + 1) = hhB (L s) k ++ [(t : Int)] by rw [hhB_succ, HT.out])
      by_cases hlt : k < s.size
      · have hlL : k < (L s).length := by rw [L_len]; exact hlt
        have hg : (L s)[k] = s[k] := L_get s k hlt
        by_cases hu : s[k].toNat = 117
        · have f1 : (((s[k].toNat : Nat) : Int) == 117) = true := by simp; omega
          have HN := Lib.hid (show hN (L s) (k + 1) = t + 1 by rw [hN_up HD.out hlL (by rw [hg]; exact hu), HT.out])
          clear hu hg
          go_wp2_with (at_builtin; refine wpList_appI _ rfl _ _ rfl w.heap.size _ _ rfl hown _ rfl rfl hlen hsz ?_)
          intro v' w1 hown1 hg1 hat1
          have hB1 := below_of_own hB hg1 hsz (fun g hg => (hown.lt g hg).1)
          clear hown hg1 hat1
          go_wp2_with fail
          go_roundw
          case rel => exact ⟨k + 1, t + 1, by omega, by go_num, by go_num, by omega, HN.out, by rw [HS.out]; exact hown1, hB1⟩
          case measure => simp [intOf]; omega
        · have f1 : (((s[k].toNat : Nat) : Int) == 117) = false := by simp; omega
          have hdn := hN_down HD.out hlL (by rw [hg]; exact hu)
          have ht0 : t ≠ 0 := by have := HT.out; omega
          have HN := Lib.hid (show hN (L s) (k + 1) = t - 1 by rw [hdn.2, HT.out])
          clear hu hg hdn
          go_wp2_with (at_builtin; refine wpList_appI _ rfl _ _ rfl w.heap.size _ _ rfl hown _ rfl rfl hlen hsz ?_)
          intro v' w1 hown1 hg1 hat1
          have hB1 := below_of_own hB hg1 hsz (fun g hg => (hown.lt g hg).1)
          clear hown hg1 hat1
          go_wp2_with fail
          go_roundw
          case rel => exact ⟨k + 1, t - 1, by omega, by go_num, by go_num, by omega, HN.out, by rw [HS.out]; exact hown1, hB1⟩
          case measure => simp [intOf]; omega
      · have hke : k = s.size := by omega
        subst hke
        go_wp2_with (at_builtin; refine wpList_appI _ rfl _ _ rfl w.heap.size _ _ rfl hown _ rfl rfl hlen hsz ?_)
        intro v' w1 hown1 hg1 hat1
        have hB1 := below_of_own hB hg1 hsz (fun g hg => (hown.lt g hg).1)
        clear hown hg1 hat1
        go_wp2_with fail
        go_ret
        exact ⟨_, rfl, by rw [HV.out, HS.out]; exact hown1, hB1⟩
  · have HV := Lib.hid (show hoR (L s) = [] by unfold hoR; rw [if_neg hp])
    have HI : Hid (∀ wq, Calls Try.prog 173 #[.string s] wq fun e w' => e = .returned (.bool false) ∧ wq = w') := fun wq => (specIsDyck_any s wq hs).mono fun e w' h => ⟨by rw [h.1]; simp [hp], h.2⟩
    clear hp
    go_enter Try.func183, Try.ntmps183
    go_wp2_with (go_at_call 173; refine (HI.out _).mono ?_; rintro e w' ⟨rfl, rfl⟩)
    go_ret
    exact ⟨_, rfl, by rw [HV.out]; exact own0, hB0⟩
theorem implHeightsOf_any (s : ByteArray) (w : World) :
    Calls Try.prog 182 #[.string s] w (RetI w (hoR (L s))) := by
  have HP0 := implIsDyck_any s w
  by_cases hp : DyckP (L s)
  · have hl16 := hp.1
    rw [L_len] at hl16
    simp only [decide_eq_true hp] at HP0
    have HV := Lib.hid (show hoR (L s) = hL (L s) s.size by unfold hoR; rw [if_pos hp, L_len])
    have HS := Lib.hid hp.2
    clear hp
    go_enter Try.func182, Try.ntmps182
    go_wp2_with fail
    refine HP0.mono ?_; rintro e w1 ⟨rfl, b1⟩
    go_wp2_with fail
    refine (heights_any s _ (by omega)).mono ?_; rintro e w2 ⟨r, rfl, hr, b2⟩
    have o2 := hr HS.out
    go_wp2_with fail
    go_ret
    exact ⟨_, rfl, by rw [HV.out]; exact o2.mono b1.size, below_then b1 b2⟩
  · simp only [decide_eq_false hp] at HP0
    have HV := Lib.hid (show hoR (L s) = [] by unfold hoR; rw [if_neg hp])
    clear hp
    go_enter Try.func182, Try.ntmps182
    go_wp2_with fail
    refine HP0.mono ?_; rintro e w1 ⟨rfl, b1⟩
    go_wp2_with fail
    go_ret
    exact ⟨_, rfl, by rw [HV.out]; exact OwI.empty_ _ _ b1.size, b1.alloc b1.size _⟩
end Go.Proofs.Ytngfkajfbgfncaa

/- Plain words on renumbering: the first places of values, the names in order of their first places. No condition. -/
namespace Go.Proofs.Ytngfkajfbgfncaa
/-- the first place of x in l, or l's length -/
def ix : List Int → Int → Nat
  | [], _ => 0
  | a :: l, x => if a = x then 0 else ix l x + 1
theorem ix_le (l : List Int) (x : Int) : ix l x ≤ l.length := by
  induction l with
  | nil => simp [ix]
  | cons a l ih => simp only [ix]; split <;> simp <;> omega
theorem ix_lt {l : List Int} {x : Int} (h : x ∈ l) : ix l x < l.length := by
  induction l with
  | nil => cases h
  | cons a l ih =>
    simp only [ix]
    split
    · simp
    · rename_i hne
      have : x ∈ l := by
        rcases List.mem_cons.1 h with h | h
        · exact absurd h.symm hne
        · exact h
      have := ih this
      simp; omega
theorem ix_first {l : List Int} {x : Int} {j : Nat} (hj : j < l.length) (he : l[j] = x) (hn : ∀ i (h : i < j), l[i]'(by omega) ≠ x) : ix l x = j := by
  induction l generalizing j with
  | nil => simp at hj
  | cons a l ih =>
    cases j with
    | zero => simp only [List.getElem_cons_zero] at he; simp [ix, he]
    | succ j =>
      have h0 : a ≠ x := by simpa using hn 0 (by omega)
      simp only [ix]
      rw [if_neg h0, ih (j := j) (by simpa using hj) (by simpa using he) (fun i h => by simpa using hn (i + 1) (by omega))]
theorem ix_get {l : List Int} {x : Int} (h : ix l x < l.length) : l[ix l x] = x := by
  induction l with
  | nil => simp at h
  | cons a l ih =>
    by_cases ha : a = x
    · have e : ix (a :: l) x = 0 := by simp [ix, ha]
      simp only [e, List.getElem_cons_zero]
      exact ha
    · have e : ix (a :: l) x = ix l x + 1 := by simp [ix, ha]
      rw [e] at h
      simp only [e, List.getElem_cons_succ]
      exact ih (by simpa using h)
theorem ix_append_mem {l : List Int} {x : Int} (m : List Int) (h : x ∈ l) : ix (l ++ m) x = ix l x := by
  induction l with
  | nil => cases h
  | cons a l ih =>
    simp only [List.cons_append, ix]
    split
    · rfl
    · rename_i hne
      rcases List.mem_cons.1 h with h | h
      · exact absurd h.symm hne
      · rw [ih h]
theorem ix_append_new {l : List Int} {x : Int} (h : x ∉ l) : ix (l ++ [x]) x = l.length := by
  induction l with
  | nil => simp [ix]
  | cons a l ih =>
    simp only [List.cons_append, ix]
    rw [if_neg (fun e => h (by rw [e]; exact List.mem_cons_self)), ih (fun hm => h (List.mem_cons_of_mem _ hm))]
    simp
theorem not_mem_of_ix {l : List Int} {x : Int} (h : ¬ ix l x < l.length) : x ∉ l := fun hm => h (ix_lt hm)
/-- the names of the first elements, in order -/
def nmStep (ns : List Int) (x : Int) : List Int := if x ∈ ns then ns else ns ++ [x]
def nm (l : List Int) : List Int := l.foldl nmStep []
theorem nm_snoc (l : List Int) (x : Int) : nm (l ++ [x]) = nmStep (nm l) x := by simp [nm, List.foldl_append]
theorem nm_mem (l : List Int) : ∀ x, x ∈ nm l ↔ x ∈ l := by
  suffices ∀ (ns : List Int) (x : Int), x ∈ l.foldl nmStep ns ↔ x ∈ ns ∨ x ∈ l by intro x; have := this [] x; unfold nm; simpa using this
  induction l with
  | nil => simp
  | cons a l ih =>
    intro ns x
    simp only [List.foldl_cons, ih, List.mem_cons]
    unfold nmStep
    split
    · rename_i ha
      constructor
      · rintro (h | h)
        · exact .inl h
        · exact .inr (.inr h)
      · rintro (h | h | h)
        · exact .inl h
        · exact .inl (by rw [h]; exact ha)
        · exact .inr h
    · simp only [List.mem_append, List.mem_singleton]
      constructor
      · rintro ((h | h) | h)
        · exact .inl h
        · exact .inr (.inl h)
        · exact .inr (.inr h)
      · rintro (h | h | h)
        · exact .inl (.inl h)
        · exact .inl (.inr h)
        · exact .inr h
theorem nm_len (l : List Int) : (nm l).length ≤ l.length := by
  suffices ∀ ns : List Int, (l.foldl nmStep ns).length ≤ ns.length + l.length by have := this []; simpa [nm] using this
  induction l with
  | nil => simp
  | cons a l ih =>
    intro ns
    have := ih (nmStep ns a)
    have h2 : (nmStep ns a).length ≤ ns.length + 1 := by unfold nmStep; split <;> simp
    simp only [List.foldl_cons, List.length_cons]
    omega
def Uniq (l : List Int) : Prop := ∀ i j (hi : i < l.length) (hj : j < l.length), i < j → l[i] ≠ l[j]
theorem uniq_step {ns : List Int} (h : Uniq ns) (x : Int) : Uniq (nmStep ns x) := by
  unfold nmStep
  split
  · exact h
  · rename_i hx
    intro i j hi hj hij
    simp only [List.length_append, List.length_singleton] at hi hj
    have hi' : i < ns.length := by omega
    rw [List.getElem_append_left hi']
    by_cases hj' : j < ns.length
    · rw [List.getElem_append_left hj']; exact h i j hi' hj' hij
    · have : j = ns.length := by omega
      subst this
      rw [List.getElem_append_right (Nat.le_refl _)]
      simp only [Nat.sub_self, List.getElem_cons_zero]
      intro e
      exact hx (by rw [← e]; exact List.getElem_mem hi')
theorem nm_uniq (l : List Int) : Uniq (nm l) := by
  suffices ∀ ns, Uniq ns → Uniq (l.foldl nmStep ns) from this [] (fun i j hi => by simp at hi)
  induction l with
  | nil => intro ns h; exact h
  | cons a l ih => intro ns h; exact ih _ (uniq_step h a)
/-- the renumbered list, of the first k elements -/
def rnL (l : List Int) : List Int := l.map fun x => ((ix (nm l) x : Nat) : Int)
theorem rnL_len (l : List Int) : (rnL l).length = l.length := by simp [rnL]
theorem rnL_snoc_old {l : List Int} {x : Int} (h : x ∈ nm l) : nm (l ++ [x]) = nm l ∧ rnL (l ++ [x]) = rnL l ++ [((ix (nm l) x : Nat) : Int)] := by
  have e : nm (l ++ [x]) = nm l := by rw [nm_snoc]; unfold nmStep; rw [if_pos h]
  exact ⟨e, by unfold rnL; rw [e]; simp⟩
theorem rnL_snoc_new {l : List Int} {x : Int} (h : x ∉ nm l) : nm (l ++ [x]) = nm l ++ [x] ∧ rnL (l ++ [x]) = rnL l ++ [(((nm l).length : Nat) : Int)] := by
  have e : nm (l ++ [x]) = nm l ++ [x] := by rw [nm_snoc]; unfold nmStep; rw [if_neg h]
  refine ⟨e, ?_⟩
  unfold rnL
  rw [e, List.map_append, List.map_singleton, ix_append_new h]
  congr 1
  apply List.map_congr_left
  intro y hy
  rw [ix_append_mem _ ((nm_mem l y).2 hy)]
theorem rnL_get {l : List Int} {j : Nat} (hj : j < l.length) : (rnL l)[j]'(by rw [rnL_len]; exact hj) = ((ix (nm l) l[j] : Nat) : Int) := by simp [rnL]
/-- the search's answer among the first j names -/
def atV (ns : List Int) (x : Int) (j : Nat) : Int := if ix ns x < j then (ix ns x : Nat) else -1
theorem atV_zero (ns : List Int) (x : Int) : atV ns x 0 = -1 := rfl
theorem atV_hit {ns : List Int} {x : Int} {j : Nat} (hu : Uniq ns) (hj : j < ns.length) (he : ns[j] = x) : atV ns x (j + 1) = (j : Int) := by
  have e : ix ns x = j := ix_first hj he (fun i h e => hu i j (by omega) hj h (by rw [e, he]))
  unfold atV
  rw [e, if_pos (by omega)]
theorem atV_miss {ns : List Int} {x : Int} {j : Nat} (hj : j < ns.length) (he : ns[j] ≠ x) : atV ns x (j + 1) = atV ns x j := by
  have : ix ns x ≠ j := by
    intro e
    have h := ix_get (l := ns) (x := x) (by omega)
    simp only [e] at h
    exact he h
  unfold atV
  by_cases h : ix ns x < j
  · rw [if_pos h, if_pos (by omega)]
  · rw [if_neg h, if_neg (by omega)]
theorem atV_le (ns : List Int) (x : Int) (j : Nat) : -1 ≤ atV ns x j ∧ atV ns x j ≤ ns.length := by
  have := ix_le ns x
  unfold atV
  split <;> exact ⟨by omega, by omega⟩
theorem atV_end_old {ns : List Int} {x : Int} (h : x ∈ ns) : atV ns x ns.length = (ix ns x : Nat) := by unfold atV; rw [if_pos (ix_lt h)]
theorem atV_end_new {ns : List Int} {x : Int} (h : x ∉ ns) : atV ns x ns.length = -1 := by
  unfold atV
  rw [if_neg]
  intro hl
  have hg := ix_get hl
  exact h (by rw [← hg]; exact List.getElem_mem hl)
def rnR (l : List Int) : List Int × Bool := if l.length ≤ 8 then (rnL l, true) else ([], false)
end Go.Proofs.Ytngfkajfbgfncaa

/- Plain words on the partition of a path: blocks by runs of d, taken off a stack or looked up at the partners. No condition. -/
namespace Go.Proofs.Ytngfkajfbgfncaa
theorem nm_map {f : Int → Int} (hf : ∀ x y, f x = f y → x = y) (l : List Int) : nm (l.map f) = (nm l).map f := by
  have h : ∀ (l acc : List Int), (l.map f).foldl nmStep (acc.map f) = (l.foldl nmStep acc).map f := by
    intro l
    induction l with
    | nil => intro acc; rfl
    | cons x l ih =>
      intro acc
      rw [List.map_cons, List.foldl_cons, List.foldl_cons, ← ih]
      congr 1
      unfold nmStep
      by_cases h : x ∈ acc
      · rw [if_pos h, if_pos (List.mem_map.2 ⟨x, h, rfl⟩)]
      · rw [if_neg h, if_neg]
        · simp
        · intro h2
          obtain ⟨y, hy, e⟩ := List.mem_map.1 h2
          exact h (hf y x e ▸ hy)
  exact h l []
theorem ix_map {f : Int → Int} (hf : ∀ x y, f x = f y → x = y) (l : List Int) (x : Int) : ix (l.map f) (f x) = ix l x := by
  induction l with
  | nil => rfl
  | cons a l ih =>
    rw [List.map_cons]
    simp only [ix]
    by_cases h : a = x
    · rw [if_pos h, if_pos (by rw [h])]
    · rw [if_neg h, if_neg (fun e => h (hf _ _ e)), ih]
theorem rnL_map {f : Int → Int} (hf : ∀ x y, f x = f y → x = y) (l : List Int) : rnL (l.map f) = rnL l := by
  unfold rnL
  rw [nm_map hf, List.map_map]
  apply List.map_congr_left
  intro x _
  simp only [Function.comp]
  rw [ix_map hf]
def isU (l : List UInt8) (x : Nat) : Bool := decide ((l.getD x 0).toNat = 117)
def isD (l : List UInt8) (x : Nat) : Bool := decide ((l.getD x 0).toNat = 100)
/-- the peaks ahead of a place -/
def pkB (l : List UInt8) (x : Nat) : Bool := decide (1 ≤ x) && (isD l x && isU l (x - 1))
def pkN (l : List UInt8) (k : Nat) : Nat := cnt k (pkB l)
def br (l : List UInt8) (k : Nat) : Nat := (decide (0 < k) && (decide (k < l.length) && (isD l (k - 1) && isD l k))).toNat
theorem isU_of {l : List UInt8} {k : Nat} (hk : k < l.length) (hu : l[k].toNat = 117) : isU l k = true := by unfold isU; rw [getD_of hk]; simp [hu]
theorem isD_not {l : List UInt8} {k : Nat} (hk : k < l.length) (hu : l[k].toNat = 117) : isD l k = false := by unfold isD; rw [getD_of hk]; simp [hu]
theorem isD_of {l : List UInt8} {k : Nat} (hd : DyckP l) (hk : k < l.length) (hu : ¬ l[k].toNat = 117) : isD l k = true := by
  unfold isD; rw [getD_of hk]; simpa using (dyck_letter hd hk).resolve_left hu
theorem isU_not {l : List UInt8} {k : Nat} (hk : k < l.length) (hu : ¬ l[k].toNat = 117) : isU l k = false := by unfold isU; rw [getD_of hk]; simpa using hu
theorem isD_isU {l : List UInt8} (hd : DyckP l) {k : Nat} (hk : k < l.length) : isD l k = !isU l k := by
  by_cases hu : l[k].toNat = 117
  · rw [isD_not hk hu, isU_of hk hu]; rfl
  · rw [isD_of hd hk hu, isU_not hk hu]; rfl
/-- the reference's stack -/
def qoF (l : List UInt8) (s : PoS) (i : Nat) : PoS := if (l.getD i 0).toNat = 117 then ⟨s.p, s.st ++ [(s.n : Int)], s.n + 1, s.k⟩ else ⟨s.p.set (s.st.getLastD 0).toNat (s.k : Int), s.st.dropLast, s.n, if i + 1 = l.length ∨ isU l (i + 1) = true then s.k + 1 else s.k⟩
def qoS (l : List UInt8) (k : Nat) : PoS := (List.range k).foldl (qoF l) ⟨List.replicate (l.length / 2) 0, [], 0, 0⟩
theorem qoS_succ (l : List UInt8) (k : Nat) : qoS l (k + 1) = qoF l (qoS l k) k := by simp [qoS, List.range_succ]
theorem cu_take_succ {l : List UInt8} {k : Nat} (hk : k < l.length) : cu (l.take (k + 1)) = cu (l.take k) + (if l[k].toNat = 117 then 1 else 0) := by
  rw [List.take_succ_eq_append_getElem hk, cu_append]
  congr 1
  by_cases h : l[k].toNat = 117 <;> simp [cu, h]
theorem cu_mono {l : List UInt8} : ∀ {i j : Nat}, i ≤ j → j ≤ l.length → cu (l.take i) ≤ cu (l.take j) := by
  intro i j hij
  induction hij with
  | refl => intro _; exact Nat.le_refl _
  | @step m h ih =>
    intro hj
    have := ih (by omega)
    have h2 := cu_take_succ (l := l) (k := m) hj
    show cu (l.take i) ≤ cu (l.take (m + 1))
    omega
theorem cu_lt {l : List UInt8} {i j : Nat} (hij : i < j) (hj : j ≤ l.length) (hu : (l[i]'(by omega)).toNat = 117) : cu (l.take i) < cu (l.take j) := by
  have h1 := cu_mono (l := l) (show i + 1 ≤ j from hij) hj
  have h2 := cu_take_succ (l := l) (k := i) (by omega)
  rw [if_pos hu] at h2
  omega
structure QInv (l : List UInt8) (k : Nat) (s : PoS) (pt : PtS) : Prop where
  is : qoS l k = s
  pi : PtInv l k pt
  len : s.p.length = l.length / 2
  st : s.st = pt.st.map fun j => ((cu (l.take j.toNat) : Nat) : Int)
  cn : s.n = cu (l.take k)
  nx : s.k + br l k = pkN l k
  up : ∀ j ∈ pt.st, ∃ i : Nat, j = (i : Int) ∧ ∃ h : i < l.length, l[i].toNat = 117 ∧ i < k
  done : ∀ i (h : i < l.length), i < k → l[i].toNat = 117 → (∃ j, Pr l i j ∧ j < k ∧ ∃ v : Nat, s.p.getD (cu (l.take i)) 0 = (v : Int) ∧ v + 1 = pkN l (j + 1)) ∨ ((i : Int) ∈ pt.st)
theorem QInv.start (l : List UInt8) : QInv l 0 ⟨List.replicate (l.length / 2) 0, [], 0, 0⟩ ⟨List.replicate l.length 0, []⟩ :=
  ⟨rfl, PtInv.start l, by simp, rfl, by simp [cu], by simp [br, pkN, cnt, sumTo], by simp, fun i h hi => by omega⟩
theorem pkN_succ (l : List UInt8) (k : Nat) : pkN l (k + 1) = pkN l k + (pkB l k).toNat := cnt_succ _ _
theorem QInv.up_ {l : List UInt8} {k : Nat} {s : PoS} {pt : PtS} (h : QInv l k s pt) (hd : DyckP l) (hk : k < l.length) (hu : l[k].toNat = 117) : QInv l (k + 1) ⟨s.p, s.st ++ [(s.n : Int)], s.n + 1, s.k⟩ ⟨pt.out, pt.st ++ [(k : Int)]⟩ := by
  refine ⟨by rw [qoS_succ, h.is]; unfold qoF; rw [getD_of hk, if_pos hu], h.pi.up hd hk hu, h.len, ?_, ?_, ?_, ?_, fun i hi hik hiu => ?_⟩
  · show s.st ++ [(s.n : Int)] = (pt.st ++ [(k : Int)]).map _
    rw [List.map_append, ← h.st]; simp [h.cn]
  · show s.n + 1 = _
    rw [cu_take_succ hk, if_pos hu, h.cn]
  · show s.k + br l (k + 1) = _
    have h1 := h.nx
    have b0 : br l k = 0 := by unfold br; rw [isD_not hk hu]; simp
    have b1 : br l (k + 1) = 0 := by unfold br; rw [show k + 1 - 1 = k from rfl, isD_not hk hu]; simp
    have p1 : pkB l k = false := by unfold pkB; rw [isD_not hk hu]; simp
    rw [pkN_succ, p1]
    simp
    omega
  · intro j hj
    rcases List.mem_append.1 hj with hj | hj
    · obtain ⟨i, h1, h2, h3, h4⟩ := h.up j hj
      exact ⟨i, h1, h2, h3, by omega⟩
    · rw [List.mem_singleton.1 hj]
      exact ⟨k, rfl, hk, hu, by omega⟩
  · rcases Nat.lt_or_ge i k with hl | hl
    · rcases h.done i hi hl hiu with ⟨j, h1, h2, h3⟩ | h1
      · exact .inl ⟨j, h1, by omega, h3⟩
      · exact .inr (List.mem_append_left _ h1)
    · obtain rfl : i = k := by omega
      exact .inr (by simp)
theorem QInv.down_ {l : List UInt8} {k : Nat} {s : PoS} {pt : PtS} (h : QInv l k s pt) (hd : DyckP l) (hk : k < l.length) (hu : ¬ l[k].toNat = 117) {ys : List Int} {j : Nat} (e : pt.st = ys ++ [(j : Int)]) (hj : j < k) (ha : Arc l j k) :
    QInv l (k + 1) ⟨s.p.set (cu (l.take j)) (s.k : Int), s.st.dropLast, s.n, if k + 1 = l.length ∨ isU l (k + 1) = true then s.k + 1 else s.k⟩ ⟨(pt.out.set k (j : Int)).set j (k : Int), ys⟩ := by
  have hst := h.st
  rw [e, List.map_append, List.map_cons, List.map_nil, Int.toNat_natCast] at hst
  have hg : s.st.getLastD 0 = ((cu (l.take j) : Nat) : Int) := by rw [hst]; simp
  have hdl : s.st.dropLast = ys.map fun j => ((cu (l.take j.toNat) : Nat) : Int) := by rw [hst]; simp
  obtain ⟨hjl, hju⟩ := ha.left hd
  have hk0 : 0 < k := by omega
  have hpkk : s.k + 1 = pkN l (k + 1) := by
    have h1 := h.nx
    have hD := isD_isU hd (show k - 1 < l.length by omega)
    have b0 : br l k = (isD l (k - 1)).toNat := by unfold br; rw [isD_of hd hk hu]; simp [hk0, hk]
    have p1 : pkB l k = isU l (k - 1) := by unfold pkB; rw [isD_of hd hk hu]; simp; omega
    rw [pkN_succ, p1]
    rw [b0, hD] at h1
    generalize pkN l k = P at h1 ⊢
    generalize s.k = K at h1 ⊢
    generalize isU l (k - 1) = X at h1 ⊢
    cases X
    · simp only [Bool.not_false, Bool.toNat_true, Bool.toNat_false] at h1 ⊢; omega
    · simp only [Bool.not_true, Bool.toNat_true, Bool.toNat_false] at h1 ⊢; omega
  refine ⟨by rw [qoS_succ, h.is]; unfold qoF; rw [getD_of hk, if_neg hu, hg, Int.toNat_natCast], h.pi.down hd hk hu e hj ha, by simpa using h.len, hdl, ?_, ?_, ?_, fun i hi hik hiu => ?_⟩
  · show s.n = _
    rw [cu_take_succ hk, if_neg hu, h.cn]; rfl
  · show (if k + 1 = l.length ∨ isU l (k + 1) = true then s.k + 1 else s.k) + br l (k + 1) = _
    rw [← hpkk]
    have hDk := isD_of hd hk hu
    by_cases h1 : k + 1 = l.length
    · rw [if_pos (.inl h1)]
      have : br l (k + 1) = 0 := by unfold br; rw [decide_eq_false (show ¬ k + 1 < l.length by omega)]; simp
      omega
    · have hk1 : k + 1 < l.length := by omega
      have hD1 := isD_isU hd hk1
      have hb : br l (k + 1) = (isD l (k + 1)).toNat := by unfold br; rw [show k + 1 - 1 = k from rfl, hDk]; simp [hk1]
      rw [hb, hD1]
      by_cases h2 : isU l (k + 1) = true
      · rw [if_pos (.inr h2), h2]; rfl
      · rw [if_neg (by simp [h1, h2])]
        have : isU l (k + 1) = false := by simpa using h2
        rw [this]; rfl
  · intro x hx
    obtain ⟨i, h1, h2, h3, h4⟩ := h.up x (by rw [e]; exact List.mem_append_left _ hx)
    exact ⟨i, h1, h2, h3, by omega⟩
  · have hcl : cu (l.take j) < s.p.length := by
      rw [h.len]
      have h1 := cu_lt (l := l) hjl (Nat.le_refl _) hju
      have h2 := dyck_half hd
      rw [List.take_length] at h1
      omega
    have hik' : i ≠ k := fun e => hu (by subst e; exact hiu)
    by_cases hij : i = j
    · subst hij
      refine .inl ⟨k, .inl ha, by omega, s.k, ?_, hpkk⟩
      show (s.p.set (cu (l.take i)) (s.k : Int)).getD _ 0 = _
      rw [getD_of (by rw [List.length_set]; exact hcl), List.getElem_set_self]
    · have hne : cu (l.take j) ≠ cu (l.take i) := by
        rcases Nat.lt_or_ge i j with h1 | h1
        · have := cu_lt (l := l) h1 (by omega) hiu; omega
        · have := cu_lt (l := l) (show j < i by omega) (by omega) hju; omega
      have he : (s.p.set (cu (l.take j)) (s.k : Int)).getD (cu (l.take i)) 0 = s.p.getD (cu (l.take i)) 0 := by
        simp only [List.getD]
        rw [List.getElem?_set_ne hne]
      rcases h.done i hi (by omega) hiu with ⟨q, h1, h2, v, h3, h4⟩ | h1
      · exact .inl ⟨q, h1, by omega, v, he.trans h3, h4⟩
      · rw [e] at h1
        rcases List.mem_append.1 h1 with h1 | h1
        · exact .inr h1
        · have : (i : Int) = (j : Int) := by simpa using h1
          exact absurd (by omega) hij
theorem QInv.all {l : List UInt8} (hd : DyckP l) : ∀ k, k ≤ l.length → ∃ pt, QInv l k (qoS l k) pt := by
  intro k
  induction k with
  | zero => intro _; exact ⟨_, QInv.start l⟩
  | succ k ih =>
    intro hk
    obtain ⟨pt, h⟩ := ih (by omega)
    rcases Nat.decEq (l[k]'hk).toNat 117 with hu | hu
    · obtain ⟨ys, j, e, hj, ha⟩ := h.pi.top hd hk hu
      have := h.down_ hd hk hu e hj ha
      exact ⟨_, by rw [this.is]; exact this⟩
    · have := h.up_ hd hk hu
      exact ⟨_, by rw [this.is]; exact this⟩
theorem Pr.uniq {l : List UInt8} (hd : DyckP l) {i j j' : Nat} (h : Pr l i j) (h' : Pr l i j') : j = j' := by
  rcases h with h | h
  · obtain ⟨hi, hu⟩ := h.left hd
    rcases h' with h' | h'
    · rcases Nat.lt_trichotomy j j' with q | q | q
      · have := h'.2.2.2 (j + 1) (by have := h.1; omega) (by omega)
        have := h.2.2.1
        omega
      · exact q
      · have := h.2.2.2 (j' + 1) (by have := h'.1; omega) (by omega)
        have := h'.2.2.1
        omega
    · obtain ⟨_, hu'⟩ := h'.right hd
      exact absurd hu hu'
  · obtain ⟨hi, hu⟩ := h.right hd
    rcases h' with h' | h'
    · obtain ⟨_, hu'⟩ := h'.left hd
      exact absurd hu' hu
    · rcases Nat.lt_trichotomy j j' with q | q | q
      · have h1 := h.2.2.2 j' q (by have := h'.1; omega)
        have := h.2.2.1
        have := h'.2.2.1
        omega
      · exact q
      · have h1 := h'.2.2.2 j q (by have := h.1; omega)
        have := h.2.2.1
        have := h'.2.2.1
        omega
/-- the program's list -/
def iL (l : List UInt8) (k : Nat) : List Int := (List.range k).flatMap fun i => if isU l i = true then [((pkN l (((prt l).getD i 0).toNat + 1) : Nat) : Int)] else []
theorem iL_succ (l : List UInt8) (k : Nat) : iL l (k + 1) = iL l k ++ (if isU l k = true then [((pkN l (((prt l).getD k 0).toNat + 1) : Nat) : Int)] else []) := by simp [iL, List.range_succ]
theorem iL_is {l : List UInt8} (hd : DyckP l) : ∀ k, k ≤ l.length → iL l k = ((qoS l l.length).p.map (fun x => x + 1)).take (cu (l.take k)) := by
  obtain ⟨pt, h⟩ := QInv.all hd l.length (Nat.le_refl _)
  have hlen := h.len
  have hfin : pt.st = [] := by
    have := h.pi.ht
    rw [hN_end hd] at this
    exact List.eq_nil_of_length_eq_zero this.symm
  have hhalf := dyck_half hd
  intro k
  induction k with
  | zero => intro _; simp [iL, cu]
  | succ k ih =>
    intro hk
    rw [iL_succ, ih (by omega), cu_take_succ hk]
    by_cases hu : (l[k]'hk).toNat = 117
    · rw [if_pos (isU_of hk hu), if_pos hu]
      have hcl := cu_lt (l := l) hk (Nat.le_refl _) hu
      rw [List.take_length] at hcl
      have hcl2 : cu (l.take k) < ((qoS l l.length).p.map (fun x => x + 1)).length := by rw [List.length_map, hlen]; omega
      rw [List.take_succ_eq_append_getElem hcl2]
      congr 2
      rcases h.done k hk hk hu with ⟨j, h1, h2, v, h3, h4⟩ | h1
      · obtain ⟨j', h5, h6⟩ := prt_at hd hk
        have := h1.uniq hd h6
        subst this
        rw [h5, Int.toNat_natCast, ← h4, List.getElem_map]
        rw [getD_of (by rw [List.length_map] at hcl2; exact hcl2)] at h3
        rw [h3]; simp
      · rw [hfin] at h1; cases h1
    · rw [if_neg (by rw [isU_not hk hu]; simp), if_neg hu]; simp
theorem iL_all {l : List UInt8} (hd : DyckP l) : iL l l.length = (qoS l l.length).p.map (fun x => x + 1) := by
  obtain ⟨pt, h⟩ := QInv.all hd l.length (Nat.le_refl _)
  have hhalf := dyck_half hd
  rw [iL_is hd _ (Nat.le_refl _), List.take_length, List.take_of_length_le]
  rw [List.length_map, h.len]; omega
def parR (l : List UInt8) : List Int × Bool := if DyckP l then (rnL (qoS l l.length).p, true) else ([], false)
theorem parR_impl {l : List UInt8} (hd : DyckP l) : rnR (iL l l.length) = (rnL (qoS l l.length).p, true) := by
  obtain ⟨pt, h⟩ := QInv.all hd l.length (Nat.le_refl _)
  rw [iL_all hd]
  unfold rnR
  rw [if_pos, rnL_map (fun x y e => by omega)]
  rw [List.length_map, h.len]
  have := hd.1
  omega
/-- the numbers of peaks, as the program lays them down -/
def rl (l : List UInt8) (k : Nat) : List Int := (List.range l.length).map fun i => if i < k then ((pkN l (i + 1) : Nat) : Int) else 0
theorem rl_len (l : List UInt8) (k : Nat) : (rl l k).length = l.length := by simp [rl]
theorem pkN_one (l : List UInt8) : pkN l 1 = 0 := by simp [pkN, cnt, sumTo, pkB]
theorem rl_one (l : List UInt8) : rl l 1 = List.replicate l.length 0 := by
  apply List.ext_getElem
  · simp [rl]
  · intro i h1 h2
    simp only [rl, List.getElem_map, List.getElem_range, List.getElem_replicate]
    split
    · rw [show i = 0 by omega, pkN_one]; rfl
    · rfl
theorem rl_set (l : List UInt8) (k : Nat) : (rl l k).set k ((pkN l (k + 1) : Nat) : Int) = rl l (k + 1) := by
  apply List.ext_getElem
  · simp [rl]
  · intro i h1 h2
    rw [List.getElem_set]
    simp only [rl, List.getElem_map, List.getElem_range]
    by_cases e : k = i
    · subst e; simp
    · rw [if_neg e]
      by_cases h : i < k
      · rw [if_pos h, if_pos (by omega)]
      · rw [if_neg h, if_neg (by omega)]
theorem rl_get {l : List UInt8} {k i : Nat} (hi : i < l.length) (hk : i < k) : (rl l k)[i]'(by rw [rl_len]; exact hi) = ((pkN l (i + 1) : Nat) : Int) := by
  simp [rl, hk]
theorem pkN_le (l : List UInt8) (k : Nat) : pkN l k ≤ k := cnt_le _ _
theorem pkB_eq {l : List UInt8} {k : Nat} (h1 : 1 ≤ k) (hk : k < l.length) : pkB l k = (decide (l[k].toNat = 100) && decide ((l[k - 1]'(by omega)).toNat = 117)) := by
  unfold pkB isD isU
  rw [getD_of hk, getD_of (show k - 1 < l.length by omega)]
  simp [h1]
end Go.Proofs.Ytngfkajfbgfncaa

/- Rows of cells of any one-cell kind that the call owns: read, written, grown, kept while others are written. No condition. -/
namespace Go.Proofs.Ytngfkajfbgfncaa
open Go.RowKit
/-- a slice value that owns a row, written by f, of cells of type e -/
def OwR {α : Type} (e : TypeId) (f : α → Value) (w : World) (base : Nat) (v : Value) (xs : List α) : Prop := w.ownsRow base e 1 v xs.length (xs.map f) ∧ xs.length ≤ 1099511627776
def RdR {α : Type} (f : α → Value) (w : World) (v : Value) (xs : List α) : Prop :=
  ∃ A c, v = .slice A xs.length c ∧ xs.length ≤ c ∧ xs.length ≤ 1099511627776 ∧ (0 < xs.length → ∃ b o, A = some ⟨b, o, none⟩ ∧ b < w.heap.size ∧ ∀ k (_ : k < xs.length), w.cell? ⟨b, o + k, none⟩ = some (f xs[k]))
def Apart (v u : Value) : Prop := ∀ g, v.ownBlock = some g → u.ownBlock ≠ some g
theorem Apart.symm {v u : Value} (h : Apart v u) : Apart u v := fun g hu hv => h g hv hu
section
variable {α β : Type} {e e' : TypeId} {f : α → Value} {f' : β → Value} {w w' : World} {base base' : Nat} {v v' u : Value} {xs : List α} {ys : List β}
theorem OwR.shape (h : OwR e f w base v xs) : (v = .slice none 0 0 ∧ xs = []) ∨ ∃ g cap, v = .slice (some ⟨g, 0, none⟩) xs.length cap ∧ base ≤ g ∧ g < w.heap.size := by
  rcases h.1.2 with ⟨e, h0⟩ | ⟨g, cap, cur, e, hb, hh, _⟩
  · exact .inl ⟨e, List.eq_nil_of_length_eq_zero h0⟩
  · refine .inr ⟨g, cap, e, hb, ?_⟩
    rcases Nat.lt_or_ge g w.heap.size with hlt | hge
    · exact hlt
    · rw [Array.getElem?_eq_none hge] at hh; cases hh
theorem OwR.lt (h : OwR e f w base v xs) : ∀ k, v.ownBlock = some k → base ≤ k ∧ k < w.heap.size := h.1.lt
theorem OwR.grown {row : Option Nat} (h : OwR e f w base v xs) (hg : w.grownBy w' row) (hne : v.ownBlock = none ∨ v.ownBlock ≠ row) : OwR e f w' base v xs := ⟨h.1.kept hg hne, h.2⟩
theorem OwR.below (h : OwR e f w base v xs) (hb : Below w.heap.size w w') : OwR e f w' base v xs := by
  refine h.grown (grown_of_below hb) ?_
  cases hv : v.ownBlock <;> simp
theorem OwR.drewN (h : OwR e f w base v xs) (q : Nat) : OwR e f (w.drewN q) base v xs := h
theorem OwR.mono (h : OwR e f w base v xs) (hb : base' ≤ base) : OwR e f w base' v xs := by
  obtain ⟨⟨h1, h2⟩, h3⟩ := h
  refine ⟨⟨h1, ?_⟩, h3⟩
  rcases h2 with h2 | ⟨g, cap, cur, e1, e2, e3⟩
  · exact .inl h2
  · exact .inr ⟨g, cap, cur, e1, Nat.le_trans hb e2, e3⟩
theorem OwR.other (h : OwR e f w base v xs) (hg : w.grownBy w' u.ownBlock) (hne : Apart v u) : OwR e f w' base v xs := by
  refine h.grown hg ?_
  rcases hv : v.ownBlock with _ | g
  · exact .inl rfl
  · exact .inr fun e => hne g hv e.symm
/-- rows of two types never share a block -/
theorem OwR.apart_of_type (h : OwR e f w base v xs) (h' : OwR e' f' w base' u ys) (hne : e ≠ e') : Apart v u := by
  intro g hv hu
  rcases h.1.2 with ⟨rfl, _⟩ | ⟨g1, cap, cur, rfl, _, hh, _⟩
  · cases hv
  · rcases h'.1.2 with ⟨rfl, _⟩ | ⟨g2, cap2, cur2, rfl, _, hh2, _⟩
    · cases hu
    · simp only [Value.ownBlock, Option.map_some, Option.some.injEq] at hv hu
      have e1 : g1 = g2 := by rw [hv, hu]
      subst e1
      rw [hh] at hh2
      injection hh2 with hh2
      injection hh2 with _ h3
      exact hne h3
/-- what the growing of v leaves of another row -/
theorem OwR.after_app {n : Nat} (h : OwR e f w base u xs) (ap : Apart v u) (hg : w.grownBy w' v.ownBlock) (hat : AppAt w v v' n) : OwR e f w' base u xs ∧ Apart v' u := by
  refine ⟨h.other hg ap.symm, fun g hv' hu => ?_⟩
  rcases hat.1 with e1 | e1
  · rw [e1] at hv'; exact ap g hv' hu
  · rw [e1] at hv'
    injection hv' with hv'
    have := (h.lt g hu).2
    omega
theorem OwR.len_eq {g n cap : Nat} (h : OwR e f w base (.slice (some ⟨g, 0, none⟩) n cap) xs) : n = xs.length := by
  rcases h.shape with ⟨e, _⟩ | ⟨g', cap', e, _⟩
  · cases e
  · injection e
theorem OwR.cellAt {g n cap : Nat} (h : OwR e f w base (.slice (some ⟨g, 0, none⟩) n cap) xs) (j : Nat) (hj : j < xs.length) : w.cell? ⟨g, j, none⟩ = some (f xs[j]) := by
  have hn := h.len_eq
  subst hn
  rw [h.1.cellAt j (by omega)]
  simp [hj]
theorem OwR.frozenAt {g n cap : Nat} (h : OwR e f w base (.slice (some ⟨g, 0, none⟩) n cap) xs) (j : Nat) : w.frozen? ⟨g, j, none⟩ = false := by
  have hn := h.len_eq
  subst hn
  exact h.1.frozenAt j
theorem OwR.stored {g n cap : Nat} (h : OwR e f w base (.slice (some ⟨g, 0, none⟩) n cap) xs) (j : Nat) (x : α) :
    OwR e f (w.setCell ⟨g, j, none⟩ (f x)) base (.slice (some ⟨g, 0, none⟩) n cap) (xs.set j x) ∧ w.grownBy (w.setCell ⟨g, j, none⟩ (f x)) (some g) := by
  have hn := h.len_eq
  subst hn
  obtain ⟨h1, h2⟩ := h.1.stored j (f x)
  refine ⟨⟨?_, by simpa using h.2⟩, h2⟩
  rw [List.length_set, List.map_set]
  exact h1
theorem OwR.rd (h : OwR e f w base v xs) : RdR f w v xs := by
  have h0 := h
  rcases h.shape with ⟨rfl, rfl⟩ | ⟨g, cap, rfl, hb, hlt⟩
  · exact ⟨none, 0, rfl, Nat.le_refl _, by simp, fun h => by simp at h⟩
  · refine ⟨_, cap, rfl, ?_, h.2, fun _ => ⟨g, 0, rfl, hlt, fun k hk => ?_⟩⟩
    · rcases h.1.2 with ⟨e, _⟩ | ⟨g', cap', cur, e, _, _, hn, _⟩
      · cases e
      · injection e with _ _ e3; subst e3; exact hn
    · rw [Nat.zero_add]; exact h0.cellAt k hk
theorem RdR.below (h : RdR f w v xs) (hb : Below w.heap.size w w') : RdR f w' v xs := by
  obtain ⟨A, c, rfl, h1, h2, h3⟩ := h
  refine ⟨A, c, rfl, h1, h2, fun h0 => ?_⟩
  obtain ⟨b, o, rfl, hlt, hc⟩ := h3 h0
  exact ⟨b, o, rfl, Nat.lt_of_lt_of_le hlt hb.size, fun k hk => (World.cell?_of_block (a := ⟨b, o + k, none⟩) (hb.block b hlt)).trans (hc k hk)⟩
theorem RdR.at_ {A : Option Addr} {n c : Nat} (h : RdR f w (.slice A n c) xs) : 0 < xs.length → ∃ b o, A = some ⟨b, o, none⟩ ∧ b < w.heap.size ∧ ∀ k (_ : k < xs.length), w.cell? ⟨b, o + k, none⟩ = some (f xs[k]) := by
  obtain ⟨A', c', e, h1, h2, h3⟩ := h
  injection e with e1 e2 e3
  subst e1
  exact h3
theorem OwR.lit (w : World) (xs : List α) (base : Nat) (hb : base ≤ w.heap.size) (hl : xs.length ≤ 1099511627776) : OwR e f (w.alloc (.cells (xs.map f).toArray e)) base (.slice (some ⟨w.heap.size, 0, none⟩) xs.length xs.length) xs := by
  refine ⟨?_, hl⟩
  have := World.ownsRow_lit (base := base) (e := e) (size := 1) w (xs.map f).toArray xs.length hb (by unfold maxLen; omega) (by simp)
  simpa using this
end
theorem OwI_is {w : World} {base : Nat} {v : Value} {xs : List Int} : OwI w base v xs ↔ OwR 3 (Value.int .i64) w base v xs := Iff.rfl
theorem RdI_is {w : World} {v : Value} {xs : List Int} : RdI w v xs ↔ RdR (Value.int .i64) w v xs := Iff.rfl
/-- 'append' of one cell -/
theorem wpList_appR {α : Type} {P : Program} {f : α → Value} (wr : World) {ops : Array Oper} {rest : List Oper} {o : Oper} {a : Act} {Q : Exit → Act → World → Prop} (hgd : o.guard = none) (s x : Operand) (t : TypeId)
    (ho : o.op = .call { callee := .builtin .append, args := #[s, x], argTypes := #[t, t] })
    (base : Nat) (e : TypeId) (z : Value) (bytes : Nat) (ht : P.underlying t = some (.slice e)) (hi : (P.info? e).map (fun i => (i.zero, i.size, i.bytes)) = some (some z, 1, bytes)) (hzs : z.cells.size = 1) (hb : bytes ≤ 64)
    (v : Value) (xs : List α) (hs : a.eval s = v) (hown : OwR e f wr base v xs) (X : α) (hX : (f X).oneCell' = true)
    {m : Nat} (hx : a.eval x = .slice (some ⟨m, 0, none⟩) 1 1) (hm : m = wr.heap.size) (hlen : xs.length < 1099511627776) (hbase : base ≤ wr.heap.size)
    (h : ∀ v' w', OwR e f w' base v' (xs ++ [X]) → wr.grownBy w' v.ownBlock → AppAt wr v v' (xs.length + 1) → wpList P ops Q rest (a.put o.dst v') w') : wpList P ops Q (o :: rest) a (wr.alloc (.cells #[f X] e)) := by
  obtain ⟨i0, hi0, hz0, hz1, hz2⟩ := info_parts hi
  refine wpList_app1 wr hgd s x t ho base e i0 z bytes ht hi0 hz0 hz1 hz2 hzs v (xs.map f) hs (by simpa using hown.1) (f X) hX hx hm (by simp; omega) hb hbase ?_
  intro v' w' h1 h2 h3
  exact h v' w' ⟨by simpa using h1, by simp; omega⟩ h2 (by simpa using h3)
/-- 'make([]T, n)' -/
theorem wpList_makeR {α : Type} {P : Program} {f : α → Value} (w : World) {ops : Array Oper} {rest : List Oper} {o : Oper} {a : Act} {Q : Exit → Act → World → Prop}
    (hg : o.guard = none) (l c : Operand) (t : TypeId) (hop : o.op = Op.makeSlice t l c) (e : TypeId) (z : α) (bytes : Nat) (ht : P.underlying t = some (.slice e)) (hi : (P.info? e).map (fun i => (i.zero, i.size, i.bytes)) = some (some (f z), 1, bytes)) (hzs : (f z).cells = #[f z]) (hb : bytes ≤ 64)
    (kl kc : IntKind) (N C : Int) (n : Nat) (hl : a.eval l = .int kl N) (hc : a.eval c = .int kc C) (hL : N = (n : Int)) (hC : C = (n : Int)) (hn : n ≤ 1099511627776)
    (hK : ∀ w', OwR e f w' w.heap.size (.slice (some ⟨w.heap.size, 0, none⟩) n n) (List.replicate n z) → Below w.heap.size w w' → wpList P ops Q rest (a.put o.dst (.slice (some ⟨w.heap.size, 0, none⟩) n n)) w') :
    wpList P ops Q (o :: rest) a w := by
  obtain ⟨i0, hi0, hz0, hz1, hz2⟩ := info_parts hi
  have hbn : i0.bytes * n ≤ 281474976710656 := by rw [hz2]; exact Nat.le_trans (Nat.mul_le_mul hb hn) (by omega)
  refine wpList_make_full w hg l c t hop w.heap.size e i0 (f z) 1 ht hi0 hz0 hz1 kl kc N C n hl hc hL hC hbn (by unfold maxLen; omega) (Nat.le_refl _) ?_
  intro w' hown hgrow
  rw [show (madeCells (f z).cells (n * 1)).toList = List.replicate n (f z) from by rw [Nat.mul_one, hzs]; exact toList_madeCells_one _ _] at hown
  exact hK w' ⟨by simpa using hown, by simpa using hn⟩ ((Below.refl _ _).grown hgrow (Nat.le_refl _) (by simp))
end Go.Proofs.Ytngfkajfbgfncaa

/- Texts built letter by letter, and slices of bytes turned into texts. No condition. -/
namespace Go.Proofs.Ytngfkajfbgfncaa
open Go.RowKit
/-- the text of a list of bytes -/
def S (l : List UInt8) : ByteArray := ⟨l.toArray⟩
theorem S_size (l : List UInt8) : (S l).size = l.length := by simp [S, ByteArray.size]
theorem S_nil : S [] = ⟨#[]⟩ := rfl
theorem S_snoc (l : List UInt8) (c : UInt8) : S l ++ ⟨#[c]⟩ = S (l ++ [c]) := by
  unfold S
  rw [ByteArray.mk_append_mk]
  try simp
theorem L_S (l : List UInt8) : L (S l) = l := by simp [L, S]
theorem S_L (s : ByteArray) : S (L s) = s := by simp [L, S]
/-- a byte as a cell -/
def bf (c : UInt8) : Value := .int .u8 (c.toNat : Int)
/-- what a call leaves that returns a text and a bool -/
def RetSB (w : World) (R : List UInt8 × Bool) (e : Ending) (w' : World) : Prop := e = .returned (.tuple #[.string (S R.1), .bool R.2]) ∧ Below w.heap.size w w'
theorem RetSB.mk {w w' : World} {R : List UInt8 × Bool} {l : List UInt8} {b : Bool} {s : ByteArray} (h : R = (l, b)) (hs : s = S l) (hb : Below w.heap.size w w') : RetSB w R (.returned (.tuple #[.string s, .bool b])) w' := by
  subst h; subst hs; exact ⟨rfl, hb⟩
theorem info_byte : (Try.prog.info? 5).map (fun i => (i.zero, i.size, i.bytes)) = some (some (Value.int .u8 0), 1, 1) := by kernel_rfl
theorem conv_row {w : World} {base : Nat} {v : Value} {l : List UInt8} (h : OwR 5 bf w base v l) : (convert 22 9 v).run Try.prog w = .ok (.string (S l)) w := by
  have h0 := h
  rcases h.shape with ⟨rfl, rfl⟩ | ⟨g, cap, rfl, _, _⟩
  · exact run_convert_bytes_nil (P := Try.prog) w 22 5 Try.underlying22 Try.underlying5 0 0 9 Try.underlying9
  · refine run_convert_bytes_back (P := Try.prog) w 22 9 5 ⟨g, 0, none⟩ cap l Try.underlying22 Try.underlying5 Try.underlying9 ?_
    intro j hj
    have := h0.cellAt j hj
    show w.cell? ((⟨g, 0, none⟩ : Addr).add j) = _
    have e : (⟨g, 0, none⟩ : Addr).add j = ⟨g, j, none⟩ := by
      unfold Addr.add
      by_cases hz : j = 0
      · subst hz; rfl
      · rw [if_neg hz, Nat.zero_add]
    rw [e]; exact this
/-- 'append' of one byte -/
theorem wpList_appB (wr : World) {ops : Array Oper} {rest : List Oper} {o : Oper} {a : Act} {Q : Exit → Act → World → Prop} (hgd : o.guard = none) (s x : Operand)
    (ho : o.op = .call { callee := .builtin .append, args := #[s, x], argTypes := #[22, 22] })
    (base : Nat) (v : Value) (xs : List UInt8) (hs : a.eval s = v) (hown : OwR 5 bf wr base v xs) (X : UInt8) (n : Int) (hX : (X.toNat : Int) = n)
    {m : Nat} (hx : a.eval x = .slice (some ⟨m, 0, none⟩) 1 1) (hm : m = wr.heap.size) (hlen : xs.length < 1099511627776) (hbase : base ≤ wr.heap.size)
    (h : ∀ v' w', OwR 5 bf w' base v' (xs ++ [X]) → wr.grownBy w' v.ownBlock → AppAt wr v v' (xs.length + 1) → wpList Try.prog ops Q rest (a.put o.dst v') w') : wpList Try.prog ops Q (o :: rest) a (wr.alloc (.cells #[.int .u8 n] 5)) := by
  subst hX
  exact wpList_appR (f := bf) wr hgd s x 22 ho base 5 (.int .u8 0) 1 Try.underlying22 info_byte rfl (by omega) v xs hs hown X rfl hx hm hlen hbase h
theorem OwR.emptyB (w : World) (base : Nat) (hb : base ≤ w.heap.size) : OwR 5 bf (w.alloc (.cells #[] 5)) base (.slice (some ⟨w.heap.size, 0, none⟩) 0 0) [] := OwR.lit (e := 5) (f := bf) w [] base hb (by simp)
end Go.Proofs.Ytngfkajfbgfncaa

/- Contracts of PeaksOf, ReturnsOf and AreaOf, the program's and the reference's. No condition but the word's size. -/
namespace Go.Proofs.Ytngfkajfbgfncaa
open Go.RowKit
def peaksV (l : List UInt8) : Int := if DyckP l then ((pkN l l.length : Nat) : Int) else -1
def rtF (l : List UInt8) (x : Nat) : Bool := decide (hN l x = 0)
def rtN (l : List UInt8) (k : Nat) : Nat := cnt k (rtF l)
def returnsV (l : List UInt8) : Int := if DyckP l then ((rtN l (l.length + 1) : Nat) : Int) - 1 else -1
def arN (l : List UInt8) (k : Nat) : Nat := sumTo k (fun i => if isU l i = true then hN l i else 0)
def areaV (l : List UInt8) : Int := if DyckP l then ((arN l l.length : Nat) : Int) else -1
theorem rtN_le (l : List UInt8) (k : Nat) : rtN l k ≤ k := cnt_le _ _
theorem arN_succ (l : List UInt8) (k : Nat) : arN l (k + 1) = arN l k + (if isU l k = true then hN l k else 0) := sumTo_succ _ _
theorem arN_le {l : List UInt8} (h : DyckP l) (k : Nat) (hk : k ≤ l.length) : arN l k ≤ k * 16 := by
  refine sumTo_le fun i hi => ?_
  have := hN_le l h i (by omega)
  have := h.1
  split <;> omega
theorem hoR_get {l : List UInt8} {i : Nat} (hi : i ≤ l.length) : (hL l l.length).getD i 0 = ((hN l i : Nat) : Int) := by
  rw [getD_of (by rw [hL_len]; omega)]
  simp [hL]
theorem extract_two {s : ByteArray} {k : Nat} (h1 : 1 ≤ k) (hk : k < s.size) : (s.extract (k - 1) (k + 1)).toList = [s[k - 1]'(by omega), s[k]] := by
  rw [ByteArray.toList_eq, ByteArray.data_extract, Array.toList_extract, List.extract_eq_take_drop]
  have h2 : k - 1 < s.data.toList.length := by simp; omega
  have h3 : k < s.data.toList.length := by simpa using hk
  rw [List.drop_eq_getElem_cons h2, show k - 1 + 1 = k by omega, List.drop_eq_getElem_cons h3, show k + 1 - (k - 1) = 2 by omega]
  rfl
theorem two_eq {a b c d : UInt8} : ([a, b] == [c, d]) = (decide (a.toNat = c.toNat) && decide (b.toNat = d.toNat)) := by
  have h : ∀ x y : UInt8, (x == y) = decide (x.toNat = y.toNat) := fun x y => by
    by_cases e : x = y
    · subst e; simp
    · rw [decide_eq_false (fun h => e (UInt8.toNat_inj.1 h))]; simpa using e
  simp [h]
theorem pk_test {s : ByteArray} {k : Nat} (h1 : 1 ≤ k) (hk : k < s.size) : ((s.extract (k - 1) (k + 1)).toList == [117, 100]) = pkB (L s) k := by
  rw [extract_two h1 hk, two_eq, pkB_eq (l := L s) h1 (by rw [L_len]; exact hk), L_get s k hk, L_get s (k - 1) (by omega), Bool.and_comm]
  rfl
set_option maxHeartbeats 1000000 in
theorem specPeaksOf_any (s : ByteArray) (w : World) (hs : s.size ≤ 1099511627776) :
    Calls Try.prog 247 #[.string s] w fun e w' => e = .returned (.int .i64 (peaksV (L s))) ∧ w = w' := by
  have HP0 := specIsDyck_any s w hs
  by_cases hp : DyckP (L s)
  · have hl16 := hp.1
    rw [L_len] at hl16
    have HV := Lib.hid (show peaksV (L s) = ((pkN (L s) s.size : Nat) : Int) by unfold peaksV; rw [if_pos hp, L_len])
    simp only [decide_eq_true hp] at HP0
    clear hp
    go_enter Try.func247, Try.ntmps247
    go_wp2_with fail
    refine HP0.mono ?_; rintro e w1 ⟨rfl, rfl⟩
    go_wp2_with fail
    go_loop [3, 4] (fun n i => ∃ k : Nat, 1 ≤ k ∧ (k ≤ s.size ∨ k = 1) ∧ i = .int .i64 k ∧ n = .int .i64 ((pkN (L s) k : Nat) : Int)) (fun _ i => s.size + 1 - (intOf i).toNat)
    case atStart => exact ⟨1, by omega, by omega, rfl, by rw [pkN_one]; rfl⟩
    case round =>
      obtain ⟨k, h1, hk, rfl, rfl⟩ := hrel
      have hk16 : k ≤ 16 := by omega
      have hpk := pkN_le (L s) k
      by_cases hlt : k < s.size
      · have hlL : k < (L s).length := by rw [L_len]; exact hlt
        have HPS := Lib.hid (pkN_succ (L s) k)
        have HT := Lib.hid (pk_test h1 hlt)
        have hk1 : ((k : Int) - 1) = ((k - 1 : Nat) : Int) := by omega
        rcases hb : pkB (L s) k with _ | _
        · have HN := Lib.hid (show pkN (L s) (k + 1) = pkN (L s) k by rw [HPS.out, hb]; rfl)
          have f1 : ((s.extract (k - 1) (k + 1)).toList == [117, 100]) = false := by rw [HT.out, hb]
          clear hb
          go_wp2_with fail
          go_round
          case rel => exact ⟨k + 1, by omega, by omega, by go_num, by rw [HN.out]⟩
          case measure => simp [intOf]; omega
        · have HN := Lib.hid (show pkN (L s) (k + 1) = pkN (L s) k + 1 by rw [HPS.out, hb]; rfl)
          have f1 : ((s.extract (k - 1) (k + 1)).toList == [117, 100]) = true := by rw [HT.out, hb]
          clear hb
          go_wp2_with fail
          go_round
          case rel => exact ⟨k + 1, by omega, by omega, by go_num, by rw [HN.out]; go_num⟩
          case measure => simp [intOf]; omega
      · have HE : peaksV (L s) = ((pkN (L s) k : Nat) : Int) := by
          rw [HV.out]
          rcases hk with hk | hk
          · rw [show k = s.size by omega]
          · subst hk
            rcases Nat.eq_zero_or_pos s.size with h | h
            · rw [h, pkN_one]; rfl
            · rw [show s.size = 1 by omega]
        have HE1 := Lib.hid HE
        clear HE
        go_wp2_with fail
        go_ret
        exact ⟨ret_int HE1.out.symm, rfl⟩
  · simp only [decide_eq_false hp] at HP0
    have HV := Lib.hid (show peaksV (L s) = -1 by unfold peaksV; rw [if_neg hp])
    clear hp
    go_enter Try.func247, Try.ntmps247
    go_wp2_with fail
    refine HP0.mono ?_; rintro e w1 ⟨rfl, rfl⟩
    go_wp2_with fail
    go_ret
    exact ⟨ret_int HV.out.symm, rfl⟩
set_option maxHeartbeats 1000000 in
theorem implPeaksOf_any (s : ByteArray) (w : World) :
    Calls Try.prog 81 #[.string s] w fun e w' => e = .returned (.int .i64 (peaksV (L s))) ∧ Below w.heap.size w w' := by
  have HP0 := implIsDyck_any s w
  by_cases hp : DyckP (L s)
  · have hl16 := hp.1
    rw [L_len] at hl16
    have HV := Lib.hid (show peaksV (L s) = ((pkN (L s) s.size : Nat) : Int) by unfold peaksV; rw [if_pos hp, L_len])
    simp only [decide_eq_true hp] at HP0
    clear hp
    go_enter Try.func81, Try.ntmps81
    go_wp2_with fail
    refine HP0.mono ?_; rintro e w1 ⟨rfl, b1⟩
    go_wp2_with fail
    go_loop [3, 4] (fun n i => ∃ k : Nat, 1 ≤ k ∧ (k ≤ s.size ∨ k = 1) ∧ i = .int .i64 k ∧ n = .int .i64 ((pkN (L s) k : Nat) : Int)) (fun _ i => s.size + 1 - (intOf i).toNat)
    case atStart => exact ⟨1, by omega, by omega, rfl, by rw [pkN_one]; rfl⟩
    case round =>
      obtain ⟨k, h1, hk, rfl, rfl⟩ := hrel
      have hk16 : k ≤ 16 := by omega
      have hpk := pkN_le (L s) k
      by_cases hlt : k < s.size
      · have hlL : k < (L s).length := by rw [L_len]; exact hlt
        have HPS := Lib.hid (pkN_succ (L s) k)
        have HF := Lib.hid (pkB_eq (l := L s) h1 hlL)
        have hg : (L s)[k] = s[k] := L_get s k hlt
        have hg1 : (L s)[k - 1] = s[k - 1] := L_get s (k - 1) (by omega)
        rw [hg, hg1] at HF
        have hk1 : ((k : Int) - 1) = ((k - 1 : Nat) : Int) := by omega
        have hlt1 : k - 1 < s.size := by omega
        clear hg hg1
        by_cases hu : (s[k - 1]'(by omega)).toNat = 117
        · have f2 : ((((s[k - 1]'(by omega)).toNat : Nat) : Int) == 117) = true := by simp; omega
          have g2 : (((s[k - 1]'(by omega)).toNat : Nat) : Int) = 117 := by omega
          by_cases hd : s[k].toNat = 100
          · have f1 : (((s[k].toNat : Nat) : Int) == 100) = true := by simp; omega
            have g1 : ((s[k].toNat : Nat) : Int) = 100 := by omega
            have HN := Lib.hid (show pkN (L s) (k + 1) = pkN (L s) k + 1 by rw [HPS.out, HF.out, decide_eq_true hd, decide_eq_true hu]; rfl)
            clear hu hd
            go_wp2_with fail
            go_round
            case rel => exact ⟨k + 1, by omega, by omega, by go_num, by rw [HN.out]; go_num⟩
            case measure => simp [intOf]; omega
          · have f1 : (((s[k].toNat : Nat) : Int) == 100) = false := by simp; omega
            have g1 : ¬ ((s[k].toNat : Nat) : Int) = 100 := by omega
            have HN := Lib.hid (show pkN (L s) (k + 1) = pkN (L s) k by rw [HPS.out, HF.out, decide_eq_false hd, Bool.false_and]; rfl)
            clear hu hd
            go_wp2_with fail
            go_round
            case rel => exact ⟨k + 1, by omega, by omega, by go_num, by rw [HN.out]⟩
            case measure => simp [intOf]; omega
        · have f2 : ((((s[k - 1]'(by omega)).toNat : Nat) : Int) == 117) = false := by simp; omega
          have g2 : ¬ (((s[k - 1]'(by omega)).toNat : Nat) : Int) = 117 := by omega
          have HN := Lib.hid (show pkN (L s) (k + 1) = pkN (L s) k by rw [HPS.out, HF.out, decide_eq_false hu, Bool.and_false]; rfl)
          clear hu
          go_wp2_with fail
          go_round
          case rel => exact ⟨k + 1, by omega, by omega, by go_num, by rw [HN.out]⟩
          case measure => simp [intOf]; omega
      · have HE : peaksV (L s) = ((pkN (L s) k : Nat) : Int) := by
          rw [HV.out]
          rcases hk with hk | hk
          · rw [show k = s.size by omega]
          · subst hk
            rcases Nat.eq_zero_or_pos s.size with h | h
            · rw [h, pkN_one]; rfl
            · rw [show s.size = 1 by omega]
        have HE1 := Lib.hid HE
        clear HE
        go_wp2_with fail
        go_ret
        exact ⟨ret_int HE1.out.symm, b1⟩
  · simp only [decide_eq_false hp] at HP0
    have HV := Lib.hid (show peaksV (L s) = -1 by unfold peaksV; rw [if_neg hp])
    clear hp
    go_enter Try.func81, Try.ntmps81
    go_wp2_with fail
    refine HP0.mono ?_; rintro e w1 ⟨rfl, b1⟩
    go_wp2_with fail
    go_ret
    exact ⟨ret_int HV.out.symm, b1⟩
end Go.Proofs.Ytngfkajfbgfncaa

/- Contracts of ReturnsOf and AreaOf, the program's and the reference's. No condition but the word's size. -/
namespace Go.Proofs.Ytngfkajfbgfncaa
open Go.RowKit
theorem rtN_succ (l : List UInt8) (k : Nat) : rtN l (k + 1) = rtN l k + (rtF l k).toNat := cnt_succ _ _
theorem rtN_one (l : List UInt8) : rtN l 1 = 1 := by simp [rtN, cnt, sumTo, rtF, hN, scan]
theorem hoR_yes {l : List UInt8} (h : DyckP l) : hoR l = hL l l.length := if_pos h
theorem hL_at {l : List UInt8} {n i : Nat} (hi : i < (hL l n).length) : (hL l n)[i] = ((hN l i : Nat) : Int) := by simp [hL]
set_option maxHeartbeats 1000000 in
theorem specReturnsOf_any (s : ByteArray) (w : World) (hs : s.size ≤ 1099511627776) :
    Calls Try.prog 248 #[.string s] w fun e w' => e = .returned (.int .i64 (returnsV (L s))) ∧ Below w.heap.size w w' := by
  have HP0 := specHeightsOf_any s w hs
  by_cases hp : DyckP (L s)
  · have hl16 := hp.1
    rw [L_len] at hl16
    have HV := Lib.hid (show returnsV (L s) = ((rtN (L s) (s.size + 1) : Nat) : Int) - 1 by unfold returnsV; rw [if_pos hp, L_len])
    rw [hoR_yes hp, L_len] at HP0
    clear hp
    go_enter Try.func248, Try.ntmps248
    go_wp2_with fail
    refine HP0.mono ?_; rintro e w1 ⟨r, rfl, o1, b1⟩
    have hrl := hL_len (L s) s.size
    obtain ⟨g, cap, rfl, _, _⟩ : ∃ g cap, r = .slice (some ⟨g, 0, none⟩) (s.size + 1) cap ∧ True ∧ True := by
      rcases o1.shape with ⟨_, e⟩ | ⟨g, cap, e, _, _⟩
      · rw [e] at hrl; simp at hrl
      · exact ⟨g, cap, by rw [e, hrl], trivial, trivial⟩
    have HRL := Lib.hid hrl
    clear hrl HP0
    go_wp2_with fail
    go_loop [4, 5] (fun n i => ∃ k : Nat, k ≤ s.size + 1 ∧ i = .int .i64 k ∧ n = .int .i64 (((rtN (L s) k : Nat) : Int) - 1)) (fun _ i => s.size + 1 - (intOf i).toNat)
    case atStart => exact ⟨0, by omega, rfl, rfl⟩
    case round =>
      obtain ⟨k, hk, rfl, rfl⟩ := hrel
      have hpk := rtN_le (L s) k
      by_cases hlt : k < s.size + 1
      · have c1 := o1.cellAt k (by rw [HRL.out]; exact hlt)
        rw [hL_at] at c1
        have HS := Lib.hid (rtN_succ (L s) k)
        have hlt' : (k : Int) < (s.size : Int) + 1 := by omega
        by_cases hz : hN (L s) k = 0
        · have HN := Lib.hid (show rtN (L s) (k + 1) = rtN (L s) k + 1 by rw [HS.out]; unfold rtF; rw [decide_eq_true hz]; rfl)
          have f1 : (((hN (L s) k : Nat) : Int) == 0) = true := beq_iff_eq.2 (by omega)
          clear hz
          go_wp2_with fail
          go_round
          case rel => exact ⟨k + 1, by omega, by go_num, by congr 1; have := HN.out; omega⟩
          case measure => simp [intOf]; omega
        · have HN := Lib.hid (show rtN (L s) (k + 1) = rtN (L s) k by rw [HS.out]; unfold rtF; rw [decide_eq_false hz]; rfl)
          have f1 : (((hN (L s) k : Nat) : Int) == 0) = false := beq_eq_false_iff_ne.2 (by omega)
          clear hz
          go_wp2_with fail
          go_round
          case rel => exact ⟨k + 1, by omega, by go_num, by rw [HN.out]⟩
          case measure => simp [intOf]; omega
      · have hke : k = s.size + 1 := by omega
        subst hke
        go_wp2_with fail
        go_ret
        exact ⟨ret_int HV.out.symm, b1⟩
  · have HV := Lib.hid (show returnsV (L s) = -1 by unfold returnsV; rw [if_neg hp])
    rw [show hoR (L s) = [] from if_neg hp] at HP0
    clear hp
    go_enter Try.func248, Try.ntmps248
    go_wp2_with fail
    refine HP0.mono ?_; rintro e w1 ⟨r, rfl, o1, b1⟩
    obtain ⟨rA, rc, rfl, _⟩ := id o1.rd
    go_wp2_with fail
    refine wp_loop_rounds 1 ?_
    rw [rounds_succ]
    go_wp2_with fail
    go_ret
    exact ⟨ret_int HV.out.symm, b1⟩
set_option maxHeartbeats 1000000 in
theorem implReturnsOf_any (s : ByteArray) (w : World) :
    Calls Try.prog 253 #[.string s] w fun e w' => e = .returned (.int .i64 (returnsV (L s))) ∧ Below w.heap.size w w' := by
  have HP0 := implIsDyck_any s w
  by_cases hp : DyckP (L s)
  · have hl16 := hp.1
    rw [L_len] at hl16
    have HV := Lib.hid (show returnsV (L s) = ((rtN (L s) (s.size + 1) : Nat) : Int) - 1 by unfold returnsV; rw [if_pos hp, L_len])
    have HO := Lib.hid (show hoR (L s) = hL (L s) s.size by rw [hoR_yes hp, L_len])
    simp only [decide_eq_true hp] at HP0
    clear hp
    go_enter Try.func253, Try.ntmps253
    go_wp2_with fail
    refine HP0.mono ?_; rintro e w1 ⟨rfl, b1⟩
    go_wp2_with fail
    refine (implHeightsOf_any s _).mono ?_; rintro e w2 ⟨r, rfl, o2, b2⟩
    rw [HO.out] at o2
    have B2 := below_then b1 b2
    have hrl := hL_len (L s) s.size
    obtain ⟨g, cap, rfl, hcap⟩ : ∃ g cap, r = .slice (some ⟨g, 0, none⟩) (s.size + 1) cap ∧ s.size + 1 ≤ cap := by
      obtain ⟨_, c, e1, h1, _⟩ := o2.rd
      rcases o2.shape with ⟨_, e⟩ | ⟨g, cap, e, _, _⟩
      · rw [e] at hrl; simp at hrl
      · rw [e] at e1
        injection e1 with _ _ e3
        exact ⟨g, cap, by rw [e, hrl], by omega⟩
    have HRL := Lib.hid hrl
    clear hrl HP0
    rcases Nat.eq_zero_or_pos s.size with h0 | h0
    · have HV0 := Lib.hid (show returnsV (L s) = 0 by rw [HV.out, h0, rtN_one]; rfl)
      have o2n := Lib.hid o2
      clear o2
      rw [h0]
      have hcap : 0 + 1 ≤ cap := by omega
      have HH0 := Lib.hid h0
      clear h0
      rcases Nat.lt_or_ge 1 cap with hc1 | hc1
      · have hne : ¬ cap = 1 := by omega
        go_wp2_with fail
        refine wp_loop_rounds 1 ?_
        rw [rounds_succ]
        go_wp2_with fail
        go_ret
        exact ⟨ret_int HV0.out.symm, B2⟩
      · obtain rfl : cap = 1 := by omega
        go_wp2_with fail
        refine wp_loop_rounds 1 ?_
        rw [rounds_succ]
        go_wp2_with fail
        go_ret
        exact ⟨ret_int HV0.out.symm, B2⟩
    · have hcap1 : 1 < cap := by omega
      have hcapi : (1 : Int) ≤ (cap : Int) := by omega
      have hne : ¬ cap = 1 := by omega
      go_wp2_with fail
      go_loop [3, 13] (fun n i => ∃ k : Nat, k ≤ s.size ∧ i = .int .i64 (k : Int) ∧ n = .int .i64 (((rtN (L s) (k + 1) : Nat) : Int) - 1)) (fun _ i => s.size - (intOf i).toNat)
      case atStart => exact ⟨0, by omega, rfl, by rw [rtN_one]; rfl⟩
      case round =>
        obtain ⟨k, hk, rfl, rfl⟩ := hrel
        have hpk := rtN_le (L s) (k + 1)
        by_cases hlt : k < s.size
        · have c1 := o2.cellAt (k + 1) (by rw [HRL.out]; omega)
          rw [hL_at] at c1
          have c1' : w2.cell? ⟨g, 1 + k, none⟩ = some (.int .i64 ((hN (L s) (k + 1) : Nat) : Int)) := by rw [Nat.add_comm]; exact c1
          have HS := Lib.hid (rtN_succ (L s) (k + 1))
          by_cases hz : hN (L s) (k + 1) = 0
          · have HN := Lib.hid (show rtN (L s) (k + 1 + 1) = rtN (L s) (k + 1) + 1 by rw [HS.out]; unfold rtF; rw [decide_eq_true hz]; rfl)
            have f1 : (((hN (L s) (k + 1) : Nat) : Int) == 0) = true := beq_iff_eq.2 (by omega)
            clear hz
            go_wp2_with fail
            go_round
            case rel => exact ⟨k + 1, by omega, by go_num, by congr 1; have := HN.out; omega⟩
            case measure => simp [intOf]; omega
          · have HN := Lib.hid (show rtN (L s) (k + 1 + 1) = rtN (L s) (k + 1) by rw [HS.out]; unfold rtF; rw [decide_eq_false hz]; rfl)
            have f1 : (((hN (L s) (k + 1) : Nat) : Int) == 0) = false := beq_eq_false_iff_ne.2 (by omega)
            clear hz
            go_wp2_with fail
            go_round
            case rel => exact ⟨k + 1, by omega, by go_num, by rw [HN.out]⟩
            case measure => simp [intOf]; omega
        · have hke : k = s.size := by omega
          subst hke
          go_wp2_with fail
          go_ret
          exact ⟨ret_int HV.out.symm, B2⟩
  · have HV := Lib.hid (show returnsV (L s) = -1 by unfold returnsV; rw [if_neg hp])
    simp only [decide_eq_false hp] at HP0
    clear hp
    go_enter Try.func253, Try.ntmps253
    go_wp2_with fail
    refine HP0.mono ?_; rintro e w1 ⟨rfl, b1⟩
    go_wp2_with fail
    go_ret
    exact ⟨ret_int HV.out.symm, b1⟩
set_option maxHeartbeats 1000000 in
theorem specAreaOf_any (s : ByteArray) (w : World) (hs : s.size ≤ 1099511627776) :
    Calls Try.prog 184 #[.string s] w fun e w' => e = .returned (.int .i64 (areaV (L s))) ∧ Below w.heap.size w w' := by
  have HP0 := specHeightsOf_any s w hs
  by_cases hp : DyckP (L s)
  · have hl16 := hp.1
    rw [L_len] at hl16
    have HV := Lib.hid (show areaV (L s) = ((arN (L s) s.size : Nat) : Int) by unfold areaV; rw [if_pos hp, L_len])
    have HD := Lib.hid hp
    rw [hoR_yes hp, L_len] at HP0
    clear hp
    go_enter Try.func184, Try.ntmps184
    go_wp2_with fail
    refine HP0.mono ?_; rintro e w1 ⟨r, rfl, o1, b1⟩
    have hrl := hL_len (L s) s.size
    obtain ⟨g, cap, rfl, _, _⟩ : ∃ g cap, r = .slice (some ⟨g, 0, none⟩) (s.size + 1) cap ∧ True ∧ True := by
      rcases o1.shape with ⟨_, e⟩ | ⟨g, cap, e, _, _⟩
      · rw [e] at hrl; simp at hrl
      · exact ⟨g, cap, by rw [e, hrl], trivial, trivial⟩
    have HRL := Lib.hid hrl
    clear hrl HP0
    go_wp2_with fail
    go_loop [4, 5] (fun n i => ∃ k : Nat, k ≤ s.size ∧ i = .int .i64 k ∧ n = .int .i64 ((arN (L s) k : Nat) : Int)) (fun _ i => s.size - (intOf i).toNat)
    case atStart => exact ⟨0, by omega, rfl, rfl⟩
    case round =>
      obtain ⟨k, hk, rfl, rfl⟩ := hrel
      have hak := arN_le HD.out k (by rw [L_len]; exact hk)
      by_cases hlt : k < s.size
      · have hlL : k < (L s).length := by rw [L_len]; exact hlt
        have hg : (L s)[k] = s[k] := L_get s k hlt
        have c1 := o1.cellAt k (by rw [HRL.out]; omega)
        rw [hL_at] at c1
        have hhN := hN_le (L s) HD.out k (by omega)
        have HS := Lib.hid (arN_succ (L s) k)
        by_cases hu : s[k].toNat = 117
        · have f1 : (((s[k].toNat : Nat) : Int) == 117) = true := by simp; omega
          have HN := Lib.hid (show arN (L s) (k + 1) = arN (L s) k + hN (L s) k by rw [HS.out, if_pos (isU_of hlL (by rw [hg]; exact hu))])
          clear hu hg
          go_wp2_with fail
          go_round
          case rel => exact ⟨k + 1, by omega, by go_num, by rw [HN.out]; go_num⟩
          case measure => simp [intOf]; omega
        · have f1 : (((s[k].toNat : Nat) : Int) == 117) = false := by simp; omega
          have HN := Lib.hid (show arN (L s) (k + 1) = arN (L s) k by rw [HS.out, if_neg (by rw [isU_not hlL (by rw [hg]; exact hu)]; simp)]; rfl)
          clear hu hg
          go_wp2_with fail
          go_round
          case rel => exact ⟨k + 1, by omega, by go_num, by rw [HN.out]⟩
          case measure => simp [intOf]; omega
      · have hke : k = s.size := by omega
        subst hke
        have hne : ((s.size : Int) + 1 == 0) = false := beq_eq_false_iff_ne.2 (by omega)
        go_wp2_with fail
        go_ret
        exact ⟨ret_int HV.out.symm, b1⟩
  · have HV := Lib.hid (show areaV (L s) = -1 by unfold areaV; rw [if_neg hp])
    rw [show hoR (L s) = [] from if_neg hp] at HP0
    clear hp
    go_enter Try.func184, Try.ntmps184
    go_wp2_with fail
    refine HP0.mono ?_; rintro e w1 ⟨r, rfl, o1, b1⟩
    obtain ⟨rA, rc, rfl, _⟩ := id o1.rd
    go_wp2_with fail
    by_cases h0 : (0 : Int) < (s.size : Int)
    all_goals (
      refine wp_loop_rounds 1 ?_
      rw [rounds_succ]
      go_wp2_with fail
      go_ret
      exact ⟨ret_int HV.out.symm, b1⟩)
set_option maxHeartbeats 1000000 in
theorem implAreaOf_any (s : ByteArray) (w : World) :
    Calls Try.prog 47 #[.string s] w fun e w' => e = .returned (.int .i64 (areaV (L s))) ∧ Below w.heap.size w w' := by
  have HP0 := implIsDyck_any s w
  by_cases hp : DyckP (L s)
  · have hl16 := hp.1
    rw [L_len] at hl16
    have HV := Lib.hid (show areaV (L s) = ((arN (L s) s.size : Nat) : Int) by unfold areaV; rw [if_pos hp, L_len])
    have HO := Lib.hid (show hoR (L s) = hL (L s) s.size by rw [hoR_yes hp, L_len])
    have HD := Lib.hid hp
    simp only [decide_eq_true hp] at HP0
    clear hp
    go_enter Try.func47, Try.ntmps47
    go_wp2_with fail
    refine HP0.mono ?_; rintro e w1 ⟨rfl, b1⟩
    go_wp2_with fail
    refine (implHeightsOf_any s _).mono ?_; rintro e w2 ⟨r, rfl, o2, b2⟩
    rw [HO.out] at o2
    have B2 := below_then b1 b2
    have hrl := hL_len (L s) s.size
    obtain ⟨g, cap, rfl, _, _⟩ : ∃ g cap, r = .slice (some ⟨g, 0, none⟩) (s.size + 1) cap ∧ True ∧ True := by
      rcases o2.shape with ⟨_, e⟩ | ⟨g, cap, e, _, _⟩
      · rw [e] at hrl; simp at hrl
      · exact ⟨g, cap, by rw [e, hrl], trivial, trivial⟩
    have HRL := Lib.hid hrl
    clear hrl HP0
    go_wp2_with fail
    go_loop [3, 5] (fun n i => ∃ k : Nat, k ≤ s.size ∧ i = .int .i64 k ∧ n = .int .i64 ((arN (L s) k : Nat) : Int)) (fun _ i => s.size - (intOf i).toNat)
    case atStart => exact ⟨0, by omega, rfl, rfl⟩
    case round =>
      obtain ⟨k, hk, rfl, rfl⟩ := hrel
      have hak := arN_le HD.out k (by rw [L_len]; exact hk)
      by_cases hlt : k < s.size
      · have hlL : k < (L s).length := by rw [L_len]; exact hlt
        have hg : (L s)[k] = s[k] := L_get s k hlt
        have c1 := o2.cellAt k (by rw [HRL.out]; omega)
        rw [hL_at] at c1
        have hhN := hN_le (L s) HD.out k (by omega)
        have HS := Lib.hid (arN_succ (L s) k)
        by_cases hu : s[k].toNat = 117
        · have f1 : (((s[k].toNat : Nat) : Int) == 117) = true := by simp; omega
          have HN := Lib.hid (show arN (L s) (k + 1) = arN (L s) k + hN (L s) k by rw [HS.out, if_pos (isU_of hlL (by rw [hg]; exact hu))])
          clear hu hg
          go_wp2_with fail
          go_round
          case rel => exact ⟨k + 1, by omega, by go_num, by rw [HN.out]; go_num⟩
          case measure => simp [intOf]; omega
        · have f1 : (((s[k].toNat : Nat) : Int) == 117) = false := by simp; omega
          have HN := Lib.hid (show arN (L s) (k + 1) = arN (L s) k by rw [HS.out, if_neg (by rw [isU_not hlL (by rw [hg]; exact hu)]; simp)]; rfl)
          clear hu hg
          go_wp2_with fail
          go_round
          case rel => exact ⟨k + 1, by omega, by go_num, by rw [HN.out]⟩
          case measure => simp [intOf]; omega
      · have hke : k = s.size := by omega
        subst hke
        go_wp2_with fail
        go_ret
        exact ⟨ret_int HV.out.symm, B2⟩
  · have HV := Lib.hid (show areaV (L s) = -1 by unfold areaV; rw [if_neg hp])
    simp only [decide_eq_false hp] at HP0
    clear hp
    go_enter Try.func47, Try.ntmps47
    go_wp2_with fail
    refine HP0.mono ?_; rintro e w1 ⟨rfl, b1⟩
    go_wp2_with fail
    go_ret
    exact ⟨ret_int HV.out.symm, b1⟩
end Go.Proofs.Ytngfkajfbgfncaa

/- Plain words on parking: the first free place, the places of the cars, by the steps of the loop. No condition. -/
namespace Go.Proofs.Ytngfkajfbgfncaa
/-- wishes of at most six cars -/
def CarOk (f : List Int) (k : Nat) : Prop := 1 ≤ f.getD k 0 ∧ f.getD k 0 ≤ f.length
instance (f : List Int) (k : Nat) : Decidable (CarOk f k) := by unfold CarOk; exact inferInstance
def CarsP (f : List Int) : Prop := f.length ≤ 6 ∧ ∀ k, k < f.length → CarOk f k
instance (f : List Int) : Decidable (CarsP f) := by unfold CarsP; exact inferInstance
theorem CarsP.not_at {f : List Int} {k : Nat} (hk : k < f.length) (h : ¬ CarOk f k) : ¬ CarsP f := fun hp => h (hp.2 k hk)
theorem CarOk.of {f : List Int} {k : Nat} (hk : k < f.length) (h1 : 1 ≤ f[k]) (h2 : f[k] ≤ f.length) : CarOk f k := by unfold CarOk; rw [getD_of hk]; exact ⟨h1, h2⟩
theorem CarOk.get {f : List Int} {k : Nat} (hk : k < f.length) (h : CarOk f k) : 1 ≤ f[k] ∧ f[k] ≤ f.length := by unfold CarOk at h; rw [getD_of hk] at h; exact h
/-- which of the numbers below n stand in a list -/
def tkL (out : List Int) (n : Nat) : List Bool := (List.range n).map fun (x : Nat) => out.contains (x : Int)
theorem tkL_len (out : List Int) (n : Nat) : (tkL out n).length = n := by simp [tkL]
theorem tkL_nil (n : Nat) : tkL [] n = List.replicate n false := by
  unfold tkL
  apply List.ext_getElem <;> simp
theorem tkL_get (out : List Int) (n x : Nat) (hx : x < (tkL out n).length) : (tkL out n)[x] = out.contains (x : Int) := by simp [tkL]
theorem tkL_set (out : List Int) (n x : Nat) : tkL (out ++ [(x : Int)]) n = (tkL out n).set x true := by
  apply List.ext_getElem
  · simp [tkL]
  · intro i h1 h2
    rw [List.getElem_set]
    simp only [tkL_get]
    by_cases h : x = i
    · subst h; simp
    · rw [if_neg h]
      simp [show (i : Int) ≠ (x : Int) from by omega]
/-- the first place from p on that is free or beyond n -/
def nf (out : List Int) (n : Nat) : Nat → Nat → Nat
  | 0, p => p
  | k + 1, p => if p ≤ n ∧ out.contains (p : Int) = true then nf out n k (p + 1) else p
theorem nf_is (out : List Int) (n : Nat) : ∀ (d fuel p j : Nat), j = p + d → d ≤ fuel → (∀ i, p ≤ i → i < j → i ≤ n ∧ out.contains (i : Int) = true) → ¬ (j ≤ n ∧ out.contains (j : Int) = true) → nf out n fuel p = j := by
  intro d
  induction d with
  | zero =>
    intro fuel p j hj hf _ hn
    obtain rfl : j = p := by omega
    cases fuel with
    | zero => rfl
    | succ k => simp only [nf]; rw [if_neg hn]
  | succ d ih =>
    intro fuel p j hj hf ha hn
    cases fuel with
    | zero => omega
    | succ k =>
      simp only [nf]
      rw [if_pos (ha p (Nat.le_refl _) (by omega))]
      exact ih k (p + 1) j (by omega) (by omega) (fun i h1 h2 => ha i (by omega) h2) hn
/-- one car parks -/
def parkStep (n : Nat) (acc : Option (List Int)) (x : Int) : Option (List Int) :=
  match acc with
  | none => none
  | some out => if nf out n (n + 1) x.toNat ≤ n then some (out ++ [((nf out n (n + 1) x.toNat : Nat) : Int)]) else none
def park (f : List Int) (k : Nat) : Option (List Int) := (f.take k).foldl (parkStep f.length) (some [])
theorem park_zero (f : List Int) : park f 0 = some [] := rfl
theorem park_succ (f : List Int) (k : Nat) (hk : k < f.length) : park f (k + 1) = parkStep f.length (park f k) f[k] := by
  unfold park
  rw [List.take_succ_eq_append_getElem hk, List.foldl_append]; rfl
theorem foldl_none (n : Nat) (l : List Int) : l.foldl (parkStep n) none = none := by
  induction l with
  | nil => rfl
  | cons x l ih => exact ih
theorem park_stop {f : List Int} {k : Nat} (h : park f k = none) : park f f.length = none := by
  unfold park at h ⊢
  rw [List.take_length]
  generalize f.length = n at h ⊢
  rw [← List.take_append_drop k f, List.foldl_append, h, foldl_none]
theorem park_full {f : List Int} {k : Nat} {out : List Int} (hk : k < f.length) (h : park f k = some out) {j : Nat} (hj : nf out f.length (f.length + 1) f[k].toNat = j) (hn : f.length < j) : park f f.length = none := by
  apply park_stop (k := k + 1)
  rw [park_succ _ _ hk, h]
  simp only [parkStep]
  rw [hj, if_neg (by omega)]
theorem park_hit {f : List Int} {k : Nat} {out : List Int} (hk : k < f.length) (h : park f k = some out) {j : Nat} (hj : nf out f.length (f.length + 1) f[k].toNat = j) (hn : j ≤ f.length) : park f (k + 1) = some (out ++ [(j : Int)]) := by
  rw [park_succ _ _ hk, h]
  simp only [parkStep]
  rw [hj, if_pos hn]
/-- the places, and whether all park -/
def placesR (f : List Int) : List Int × Bool :=
  if CarsP f then (match park f f.length with | some out => (out, true) | none => ([], false)) else ([], false)
theorem placesR_some {f out : List Int} (h : CarsP f) (hp : park f f.length = some out) : placesR f = (out, true) := by unfold placesR; rw [if_pos h, hp]
theorem placesR_none {f : List Int} (hp : park f f.length = none) : placesR f = ([], false) := by
  unfold placesR
  split
  · rw [hp]
  · rfl
theorem placesR_bad {f : List Int} (h : ¬ CarsP f) : placesR f = ([], false) := by unfold placesR; rw [if_neg h]
theorem nf_ge (out : List Int) (n : Nat) : ∀ (k p : Nat), p ≤ nf out n k p := by
  intro k
  induction k with
  | zero => intro p; exact Nat.le_refl _
  | succ k ih =>
    intro p
    simp only [nf]
    split
    · exact Nat.le_trans (by omega) (ih (p + 1))
    · exact Nat.le_refl _
theorem park_facts (f : List Int) : ∀ (k : Nat) (out : List Int), k ≤ f.length → park f k = some out → out.length = k ∧ ∀ x ∈ out, 0 ≤ x ∧ x ≤ f.length := by
  intro k
  induction k with
  | zero =>
    intro out _ h
    rw [park_zero] at h
    injection h with h
    subst h
    exact ⟨rfl, by simp⟩
  | succ k ih =>
    intro out hk h
    rw [park_succ _ _ (by omega)] at h
    cases hp : park f k with
    | none => rw [hp] at h; cases h
    | some o =>
      rw [hp] at h
      obtain ⟨h1, h2⟩ := ih o (by omega) hp
      simp only [parkStep] at h
      split at h
      · injection h with h
        subst h
        refine ⟨by simp [h1], fun x hx => ?_⟩
        rcases List.mem_append.1 hx with hx | hx
        · exact h2 x hx
        · simp at hx; subst hx; exact ⟨by omega, by omega⟩
      · cases h
/-- displacement and luck -/
def dispS (P f : List Int) (k : Nat) : Int := (List.range k).foldl (fun n i => n + P.getD i 0 - f.getD i 0) 0
theorem dispS_succ (P f : List Int) (k : Nat) : dispS P f (k + 1) = dispS P f k + P.getD k 0 - f.getD k 0 := by simp [dispS, List.range_succ]
def dispV (f : List Int) : Int := if (placesR f).2 = true then dispS (placesR f).1 f f.length else -1
def luckF (P f : List Int) (i : Nat) : Bool := P.getD i 0 == f.getD i 0
def luckV (f : List Int) : Int := if (placesR f).2 = true then (cnt f.length (luckF (placesR f).1 f) : Nat) else -1
theorem placesR_ok {f : List Int} (h : (placesR f).2 = true) : CarsP f ∧ (placesR f).1.length = f.length ∧ ∀ x ∈ (placesR f).1, 0 ≤ x ∧ x ≤ 6 := by
  unfold placesR at h ⊢
  by_cases hc : CarsP f
  · rw [if_pos hc] at h ⊢
    cases hp : park f f.length with
    | none => rw [hp] at h; cases h
    | some out =>
      obtain ⟨h1, h2⟩ := park_facts f f.length out (Nat.le_refl _) hp
      exact ⟨hc, h1, fun x hx => by have := h2 x hx; have := hc.1; exact ⟨by omega, by omega⟩⟩
  · rw [if_neg hc] at h; cases h
end Go.Proofs.Ytngfkajfbgfncaa

/- Plain words on tableaux of two rows. No condition. -/
namespace Go.Proofs.Ytngfkajfbgfncaa
/-- a place of one row: in range, and beyond the one ahead -/
def RowAt (n : Nat) (a : List Int) (i : Nat) : Prop := 1 ≤ a.getD i 0 ∧ a.getD i 0 ≤ 2 * n ∧ (0 < i → a.getD (i - 1) 0 < a.getD i 0)
instance (n : Nat) (a : List Int) (i : Nat) : Decidable (RowAt n a i) := by unfold RowAt; exact inferInstance
def RowsP (a b : List Int) : Prop := a.length = b.length ∧ a.length ≤ 8 ∧ (∀ i, i < a.length → RowAt a.length a i) ∧ (∀ i, i < a.length → RowAt a.length b i) ∧ (∀ i, i < a.length → a.getD i 0 < b.getD i 0) ∧
  ∀ i, i < a.length → ∀ k, k < a.length → a.getD i 0 ≠ b.getD k 0
instance (a b : List Int) : Decidable (RowsP a b) := by unfold RowsP; exact inferInstance
def rw_ (t : List (List Int)) (i : Nat) : List Int := t.getD i []
def TabP (t : List (List Int)) : Prop := t.length = 2 ∧ RowsP (rw_ t 0) (rw_ t 1)
instance (t : List (List Int)) : Decidable (TabP t) := by unfold TabP; exact inferInstance
theorem asc_lt {n : Nat} {a : List Int} (h : ∀ i, i < a.length → RowAt n a i) : ∀ j i, i < j → j < a.length → a.getD i 0 < a.getD j 0 := by
  intro j
  induction j with
  | zero => intro i hi; omega
  | succ j ih =>
    intro i hi hj
    have h1 := (h (j + 1) hj).2.2 (by omega)
    rw [Nat.add_sub_cancel] at h1
    rcases Nat.lt_or_ge i j with h2 | h2
    · exact Int.lt_trans (ih i h2 (by omega)) h1
    · rw [show i = j from by omega]; exact h1
/-- what the reference asks at row r, place i -/
def SpecAt (a b : List Int) (r i : Nat) : Prop := RowAt a.length (if r = 0 then a else b) i ∧ a.getD i 0 < b.getD i 0 ∧ ∀ k, k < a.length → a.getD i 0 ≠ b.getD k 0
theorem rowsP_spec {a b : List Int} (h1 : a.length = b.length) (h2 : a.length ≤ 8) : RowsP a b ↔ ∀ r, r < 2 → ∀ i, i < a.length → SpecAt a b r i := by
  constructor
  · rintro ⟨_, _, h3, h4, h5, h6⟩ r hr i hi
    refine ⟨?_, h5 i hi, h6 i hi⟩
    by_cases e : r = 0
    · rw [if_pos e]; exact h3 i hi
    · rw [if_neg e]; exact h4 i hi
  · intro h
    exact ⟨h1, h2, fun i hi => (h 0 (by omega) i hi).1, fun i hi => (h 1 (by omega) i hi).1, fun i hi => (h 0 (by omega) i hi).2.1, fun i hi => (h 0 (by omega) i hi).2.2⟩
/-- what the program asks: among the numbers before it none is equal -/
def accOf (a b : List Int) (r i : Nat) : List Int := if r = 0 then a.take i else a ++ b.take i
def ImplAt (a b : List Int) (r i : Nat) : Prop := RowAt a.length (if r = 0 then a else b) i ∧ (if r = 0 then a else b).getD i 0 ∉ accOf a b r i
theorem mem_take_getD {a : List Int} {i : Nat} {x : Int} (hi : i ≤ a.length) (h : x ∈ a.take i) : ∃ j, j < i ∧ a.getD j 0 = x := by
  obtain ⟨j, hj, e⟩ := List.mem_take_iff_getElem.1 h
  exact ⟨j, by omega, by rw [getD_of (by omega), e]⟩
theorem mem_getD {a : List Int} {x : Int} (h : x ∈ a) : ∃ j, j < a.length ∧ a.getD j 0 = x := by
  obtain ⟨j, hj, e⟩ := List.getElem_of_mem h
  exact ⟨j, hj, by rw [getD_of hj, e]⟩
theorem getD_mem {a : List Int} {j : Nat} (h : j < a.length) : a.getD j 0 ∈ a := by rw [getD_of h]; exact List.getElem_mem h
theorem rowsP_impl {a b : List Int} (h1 : a.length = b.length) (h2 : a.length ≤ 8) : RowsP a b ↔ (∀ r, r < 2 → ∀ i, i < a.length → ImplAt a b r i) ∧ ∀ i, i < a.length → a.getD i 0 < b.getD i 0 := by
  constructor
  · rintro ⟨_, _, h3, h4, h5, h6⟩
    refine ⟨fun r hr i hi => ?_, h5⟩
    by_cases e : r = 0
    · subst e
      refine ⟨h3 i hi, fun hm => ?_⟩
      obtain ⟨j, hj, e⟩ := mem_take_getD (by omega) hm
      have := asc_lt h3 i j hj hi
      simp only [if_true] at e
      omega
    · refine ⟨by rw [if_neg e]; exact h4 i hi, fun hm => ?_⟩
      rw [if_neg e] at hm
      unfold accOf at hm
      rw [if_neg e] at hm
      rcases List.mem_append.1 hm with hm | hm
      · obtain ⟨j, hj, e⟩ := mem_getD hm
        exact h6 j hj i hi e
      · obtain ⟨j, hj, e⟩ := mem_take_getD (by omega) hm
        have := asc_lt (n := a.length) (a := b) (fun k hk => h4 k (by omega)) i j hj (by omega)
        omega
  · rintro ⟨h, h5⟩
    refine ⟨h1, h2, fun i hi => (h 0 (by omega) i hi).1, fun i hi => (h 1 (by omega) i hi).1, h5, fun i hi k hk e => ?_⟩
    have hm := (h 1 (by omega) k hk).2
    apply hm
    simp only [accOf, if_neg (show ¬ (1 : Nat) = 0 from by omega)]
    rw [← e]
    exact List.mem_append_left _ (getD_mem hi)
end Go.Proofs.Ytngfkajfbgfncaa

/- Plain words on the path of a tableau: the numbers of its two rows are all numbers up to twice its length. No condition. -/
namespace Go.Proofs.Ytngfkajfbgfncaa
/-- different numbers below n are at most n -/
theorem nodup_le : ∀ (n : Nat) (l : List Nat), l.Nodup → (∀ x ∈ l, x < n) → l.length ≤ n := by
  intro n
  induction n with
  | zero =>
    intro l _ h
    cases l with
    | nil => simp
    | cons x l => exact absurd (h x (by simp)) (by omega)
  | succ n ih =>
    intro l hn h
    have h1 := ih (l.erase n) (hn.erase n) (fun x hx => by
      have h2 := (hn.mem_erase_iff).1 hx
      have := h x h2.2
      have := h2.1
      omega)
    have h2 : l.length ≤ (l.erase n).length + 1 := by
      rw [List.length_erase]
      split <;> omega
    omega
/-- n different numbers below n are all of them -/
theorem nodup_all {n : Nat} {l : List Nat} (hn : l.Nodup) (h : ∀ x ∈ l, x < n) (hl : l.length = n) : ∀ x, x < n → x ∈ l := by
  intro x hx
  rcases Classical.em (x ∈ l) with h1 | h1
  · exact h1
  · have := nodup_le n (x :: l) (List.nodup_cons.2 ⟨h1, hn⟩) (fun y hy => by
      rcases List.mem_cons.1 hy with e | e
      · rw [e]; exact hx
      · exact h y e)
    rw [List.length_cons] at this
    omega
theorem RowsP.bounds {a b : List Int} (h : RowsP a b) {i : Nat} (hi : i < a.length) : 1 ≤ a.getD i 0 ∧ a.getD i 0 ≤ 2 * (a.length : Int) ∧ 1 ≤ b.getD i 0 ∧ b.getD i 0 ≤ 2 * (a.length : Int) :=
  ⟨(h.2.2.1 i hi).1, (h.2.2.1 i hi).2.1, (h.2.2.2.1 i hi).1, (h.2.2.2.1 i hi).2.1⟩
theorem RowsP.asc {a b : List Int} (h : RowsP a b) {i j : Nat} (hij : i < j) (hj : j < a.length) : a.getD i 0 < a.getD j 0 ∧ b.getD i 0 < b.getD j 0 :=
  ⟨asc_lt h.2.2.1 j i hij hj, asc_lt (n := a.length) (a := b) (fun i hi => h.2.2.2.1 i (by rw [h.1]; exact hi)) j i hij (by rw [← h.1]; exact hj)⟩
/-- each number up to twice the length stands in one of the rows -/
theorem RowsP.cover {a b : List Int} (h : RowsP a b) {p : Nat} (hp : p < 2 * a.length) : (∃ i, i < a.length ∧ a.getD i 0 = (p : Int) + 1) ∨ (∃ i, i < a.length ∧ b.getD i 0 = (p : Int) + 1) := by
  have hA : ∀ i, i < a.length → a.getD i 0 = (((a.getD i 0).toNat - 1 : Nat) : Int) + 1 := fun i hi => by have := h.bounds hi; omega
  have hB : ∀ i, i < a.length → b.getD i 0 = (((b.getD i 0).toNat - 1 : Nat) : Int) + 1 := fun i hi => by have := h.bounds hi; omega
  let l : List Nat := (List.range a.length).map (fun i => (a.getD i 0).toNat - 1) ++ (List.range a.length).map (fun i => (b.getD i 0).toNat - 1)
  have hl : l.length = 2 * a.length := by simp [l]; omega
  have hm : ∀ x ∈ l, x < 2 * a.length := by
    intro x hx
    rcases List.mem_append.1 hx with hx | hx
    · obtain ⟨i, hi, rfl⟩ := List.mem_map.1 hx
      have := h.bounds (List.mem_range.1 hi); omega
    · obtain ⟨i, hi, rfl⟩ := List.mem_map.1 hx
      have := h.bounds (List.mem_range.1 hi); omega
  have hn : l.Nodup := by
    refine List.nodup_append.2 ⟨?_, ?_, ?_⟩
    · refine List.Pairwise.map _ (R := fun i j => i < j ∧ j < a.length) (fun i j hij => ?_) ?_
      · have h1 := h.bounds (show i < a.length by omega)
        have h2 := h.bounds hij.2
        have := (h.asc hij.1 hij.2).1
        intro e; omega
      · refine List.pairwise_iff_getElem.2 fun i j hi hj hij => ?_
        simp at hi hj ⊢; omega
    · refine List.Pairwise.map _ (R := fun i j => i < j ∧ j < a.length) (fun i j hij => ?_) ?_
      · have h1 := h.bounds (show i < a.length by omega)
        have h2 := h.bounds hij.2
        have := (h.asc hij.1 hij.2).2
        intro e; omega
      · refine List.pairwise_iff_getElem.2 fun i j hi hj hij => ?_
        simp at hi hj ⊢; omega
    · intro x hx y hy e
      obtain ⟨i, hi, rfl⟩ := List.mem_map.1 hx
      obtain ⟨j, hj, rfl⟩ := List.mem_map.1 hy
      have h1 := hA i (List.mem_range.1 hi)
      have h2 := hB j (List.mem_range.1 hj)
      exact h.2.2.2.2.2 i (List.mem_range.1 hi) j (List.mem_range.1 hj) (by omega)
  have := nodup_all hn hm hl p hp
  rcases List.mem_append.1 this with hx | hx
  · obtain ⟨i, hi, e⟩ := List.mem_map.1 hx
    have := hA i (List.mem_range.1 hi)
    exact .inl ⟨i, List.mem_range.1 hi, by omega⟩
  · obtain ⟨i, hi, e⟩ := List.mem_map.1 hx
    have := hB i (List.mem_range.1 hi)
    exact .inr ⟨i, List.mem_range.1 hi, by omega⟩
def potL (a : List Int) (m : Nat) : List UInt8 := (List.range m).map fun (i : Nat) => if (i : Int) + 1 ∈ a then 117 else 100
theorem potL_len (a : List Int) (m : Nat) : (potL a m).length = m := by simp [potL]
theorem potL_succ (a : List Int) (m : Nat) : potL a (m + 1) = potL a m ++ [if (m : Int) + 1 ∈ a then 117 else 100] := by simp [potL, List.range_succ]
def potR (t : List (List Int)) : List UInt8 × Bool := if TabP t then (potL (rw_ t 0) (2 * (rw_ t 0).length), true) else ([], false)
/-- what the program fills in -/
def fillW (a b : List Int) (i : Nat) : List UInt8 := (List.range i).foldl (fun w i => (w.set (a.getD i 0 - 1).toNat 117).set (b.getD i 0 - 1).toNat 100) (List.replicate (2 * a.length) 0)
theorem fillW_succ (a b : List Int) (i : Nat) : fillW a b (i + 1) = ((fillW a b i).set (a.getD i 0 - 1).toNat 117).set (b.getD i 0 - 1).toNat 100 := by simp [fillW, List.range_succ]
theorem fillW_len (a b : List Int) (i : Nat) : (fillW a b i).length = 2 * a.length := by
  induction i with
  | zero => simp [fillW]
  | succ i ih => rw [fillW_succ]; simp [ih]
theorem fillW_at {a b : List Int} (h : RowsP a b) : ∀ i, i ≤ a.length → (∀ j, j < i → (fillW a b i).getD (a.getD j 0 - 1).toNat 0 = 117) ∧ ∀ j, j < i → (fillW a b i).getD (b.getD j 0 - 1).toNat 0 = 100 := by
  intro i
  induction i with
  | zero => intro _; exact ⟨fun j hj => by omega, fun j hj => by omega⟩
  | succ i ih =>
    intro hi
    obtain ⟨h1, h2⟩ := ih (by omega)
    have hb := h.bounds (show i < a.length by omega)
    have hl := fillW_len a b i
    have set_get : ∀ (l : List UInt8) (k x : Nat) (c : UInt8), (l.set k c).getD x 0 = if k = x ∧ k < l.length then c else l.getD x 0 := by
      intro l k x c
      simp only [List.getD, List.getElem?_set]
      by_cases e : k = x
      · subst e
        by_cases hk : k < l.length
        · simp [hk]
        · simp [hk]
      · simp [e]
    rw [fillW_succ]
    refine ⟨fun j hj => ?_, fun j hj => ?_⟩
    · have hbj := h.bounds (show j < a.length by omega)
      have hne := h.2.2.2.2.2 j (by omega) i (by omega)
      rw [set_get, if_neg (fun e => hne (by omega)), set_get]
      by_cases e : (a.getD i 0 - 1).toNat = (a.getD j 0 - 1).toNat
      · rw [if_pos ⟨e, by rw [hl]; omega⟩]
      · rw [if_neg (fun x => e x.1)]
        refine h1 j ?_
        rcases Nat.lt_or_ge j i with q | q
        · exact q
        · exact absurd (by rw [show j = i from by omega]) e
    · have hbj := h.bounds (show j < a.length by omega)
      have hne := h.2.2.2.2.2 i (by omega) j (by omega)
      rw [set_get]
      by_cases e : (b.getD i 0 - 1).toNat = (b.getD j 0 - 1).toNat
      · rw [if_pos ⟨e, by rw [List.length_set, hl]; omega⟩]
      · rw [if_neg (fun x => e x.1), set_get, if_neg (fun x => hne (by omega))]
        refine h2 j ?_
        rcases Nat.lt_or_ge j i with q | q
        · exact q
        · exact absurd (by rw [show j = i from by omega]) e
theorem fillW_all {a b : List Int} (h : RowsP a b) : fillW a b a.length = potL a (2 * a.length) := by
  obtain ⟨h1, h2⟩ := fillW_at h a.length (Nat.le_refl _)
  apply List.ext_getElem
  · rw [fillW_len, potL_len]
  · intro p hp hp'
    rw [fillW_len] at hp
    have e : (fillW a b a.length)[p] = (fillW a b a.length).getD p 0 := (getD_of (by rw [fillW_len]; exact hp) 0).symm
    rw [e]
    simp only [potL, List.getElem_map, List.getElem_range]
    rcases h.cover hp with ⟨i, hi, ei⟩ | ⟨i, hi, ei⟩
    · have := h1 i hi
      rw [ei, show ((p : Int) + 1 - 1).toNat = p by omega] at this
      rw [this, if_pos]
      rw [← ei]; exact getD_mem hi
    · have := h2 i hi
      rw [ei, show ((p : Int) + 1 - 1).toNat = p by omega] at this
      rw [this, if_neg]
      intro hm
      obtain ⟨j, hj, ej⟩ := mem_getD hm
      exact h.2.2.2.2.2 j hj i hi (by rw [ej, ei])
end Go.Proofs.Ytngfkajfbgfncaa

/- Plain words on the tableau of a path: the places of its letters. No condition. -/
namespace Go.Proofs.Ytngfkajfbgfncaa
def tuL (l : List UInt8) (k : Nat) : List Int := (List.range k).flatMap fun (i : Nat) => if (l.getD i 0).toNat = 117 then [(i : Int) + 1] else []
def tdL (l : List UInt8) (k : Nat) : List Int := (List.range k).flatMap fun (i : Nat) => if (l.getD i 0).toNat = 117 then [] else [(i : Int) + 1]
theorem tuL_succ {l : List UInt8} {k : Nat} (h : k < l.length) : tuL l (k + 1) = tuL l k ++ (if l[k].toNat = 117 then [(k : Int) + 1] else []) := by
  simp only [tuL, List.range_succ, List.flatMap_append, List.flatMap_cons, List.flatMap_nil, List.append_nil, getD_of h]
theorem tdL_succ {l : List UInt8} {k : Nat} (h : k < l.length) : tdL l (k + 1) = tdL l k ++ (if l[k].toNat = 117 then [] else [(k : Int) + 1]) := by
  simp only [tdL, List.range_succ, List.flatMap_append, List.flatMap_cons, List.flatMap_nil, List.append_nil, getD_of h]
theorem flat_le {f : Nat → List Int} (hf : ∀ i, (f i).length ≤ 1) : ∀ k, ((List.range k).flatMap f).length ≤ k := by
  intro k
  induction k with
  | zero => simp
  | succ k ih =>
    rw [List.range_succ, List.flatMap_append, List.length_append, List.flatMap_cons, List.flatMap_nil, List.append_nil]
    have := hf k
    omega
theorem tuL_len (l : List UInt8) (k : Nat) : (tuL l k).length ≤ k := flat_le (fun i => by split <;> simp) k
theorem tdL_len (l : List UInt8) (k : Nat) : (tdL l k).length ≤ k := flat_le (fun i => by split <;> simp) k
def tabR (l : List UInt8) : List (List Int) × Bool := if DyckP l then ([tuL l l.length, tdL l l.length], true) else ([], false)
end Go.Proofs.Ytngfkajfbgfncaa

/- Plain words on a path gone back, and on the path of a tableau: both are paths. No condition. -/
namespace Go.Proofs.Ytngfkajfbgfncaa
def flipC (c : UInt8) : UInt8 := if c.toNat = 117 then 100 else 117
def revD (l : List UInt8) : List UInt8 := (l.reverse).map flipC
def revT (l : List UInt8) (m : Nat) : List UInt8 := revD (l.drop m)
theorem revT_full (l : List UInt8) : revT l l.length = [] := by simp [revT, revD]
theorem revT_zero (l : List UInt8) : revT l 0 = revD l := by simp [revT]
theorem revT_pred {l : List UInt8} {m : Nat} (h : m < l.length) : revT l m = revT l (m + 1) ++ [flipC l[m]] := by
  unfold revT revD
  rw [drop_get_cons _ _ h, List.reverse_cons, List.map_append]; rfl
theorem revT_len (l : List UInt8) (m : Nat) : (revT l m).length = l.length - m := by simp [revT, revD]
def rvR (l : List UInt8) : List UInt8 × Bool := if DyckP l then (revD l, true) else ([], false)
theorem rev_fold : ∀ (l : List UInt8) (a b : Nat), l.foldl stepD (some a) = some b → (revD l).foldl stepD (some b) = some a := by
  intro l
  induction l with
  | nil => intro a b h; simpa [revD] using h.symm
  | cons c l ih =>
    intro a b h
    rw [List.foldl_cons] at h
    have e : revD (c :: l) = revD l ++ [flipC c] := by simp [revD]
    rw [e, List.foldl_append]
    cases hs : stepD (some a) c with
    | none => rw [hs, scan_none] at h; cases h
    | some a' =>
      rw [hs] at h
      rw [ih a' b h]
      simp only [List.foldl_cons, List.foldl_nil]
      simp only [stepD] at hs
      split at hs
      · rename_i hu
        injection hs with hs
        unfold flipC
        rw [if_pos hu]
        subst hs
        simp [stepD]
      · rename_i hu
        split at hs
        · split at hs
          · cases hs
          · injection hs with hs
            unfold flipC
            rw [if_neg hu]
            subst hs
            simp [stepD]; omega
        · cases hs
theorem rev_dyck {l : List UInt8} (h : DyckP l) : DyckP (revD l) := by
  refine ⟨by simp [revD]; exact h.1, ?_⟩
  exact rev_fold l 0 0 h.2
/-- counts of a rising row -/
theorem cnt_step {n : Nat} {f : Nat → Int} (h : ∀ i j, i < j → j < n → f i < f j) (m : Int) :
    cnt n (fun i => decide (f i ≤ m + 1)) = cnt n (fun i => decide (f i ≤ m)) + (if ∃ i, i < n ∧ f i = m + 1 then 1 else 0) := by
  induction n with
  | zero => simp [cnt, sumTo]
  | succ n ih =>
    rw [cnt_succ, cnt_succ, ih (fun i j hij hj => h i j hij (by omega))]
    by_cases he : f n = m + 1
    · have h1 : ¬ ∃ i, i < n ∧ f i = m + 1 := fun ⟨i, hi, e⟩ => by have := h i n hi (by omega); omega
      have h2 : ∃ i, i < n + 1 ∧ f i = m + 1 := ⟨n, by omega, he⟩
      rw [if_neg h1, if_pos h2, decide_eq_true (show f n ≤ m + 1 by omega), decide_eq_false (show ¬ f n ≤ m by omega)]; rfl
    · have h3 : (decide (f n ≤ m + 1)) = decide (f n ≤ m) := by
        by_cases h4 : f n ≤ m
        · rw [decide_eq_true h4, decide_eq_true (by omega)]
        · rw [decide_eq_false h4, decide_eq_false (by omega)]
      have h5 : (∃ i, i < n + 1 ∧ f i = m + 1) ↔ ∃ i, i < n ∧ f i = m + 1 := ⟨fun ⟨i, hi, e⟩ => by
        rcases Nat.lt_or_ge i n with q | q
        · exact ⟨i, q, e⟩
        · rw [show i = n by omega] at e; exact absurd e he, fun ⟨i, hi, e⟩ => ⟨i, by omega, e⟩⟩
      rw [h3]
      by_cases h6 : ∃ i, i < n ∧ f i = m + 1
      · rw [if_pos h6, if_pos (h5.2 h6)]; omega
      · rw [if_neg h6, if_neg (fun x => h6 (h5.1 x))]; omega
theorem cnt_mono {n : Nat} {f g : Nat → Bool} (h : ∀ i, i < n → f i = true → g i = true) : cnt n f ≤ cnt n g := by
  induction n with
  | zero => exact Nat.le_refl _
  | succ n ih =>
    rw [cnt_succ, cnt_succ]
    have h1 := ih (fun i hi => h i (by omega))
    have h2 : (f n).toNat ≤ (g n).toNat := by
      rcases hf : f n with _ | _
      · simp
      · rw [h n (by omega) hf]; exact Nat.le_refl _
    omega
theorem cnt_all {n : Nat} {f : Nat → Bool} (h : ∀ i, i < n → f i = true) : cnt n f = n := by
  induction n with
  | zero => rfl
  | succ n ih => rw [cnt_succ, ih (fun i hi => h i (by omega)), h n (by omega)]; rfl
theorem pot_scan {a b : List Int} (h : RowsP a b) : ∀ m : Nat, m ≤ 2 * a.length → scan (potL a m) = some (cnt a.length (fun i => decide (a.getD i 0 ≤ (m : Int))) - cnt a.length (fun i => decide (b.getD i 0 ≤ (m : Int)))) := by
  intro m
  induction m with
  | zero =>
    intro _
    have h1 : cnt a.length (fun i => decide (a.getD i 0 ≤ ((0 : Nat) : Int))) = 0 := cnt_none fun i hi => decide_eq_false (by have := h.bounds hi; omega)
    rw [h1]; simp [potL, scan]
  | succ m ih =>
    intro hm
    have hA := cnt_step (n := a.length) (f := fun i => a.getD i 0) (fun i j hij hj => (h.asc hij hj).1) (m : Int)
    have hB := cnt_step (n := a.length) (f := fun i => b.getD i 0) (fun i j hij hj => (h.asc hij hj).2) (m : Int)
    have hle : cnt a.length (fun i => decide (b.getD i 0 ≤ ((m + 1 : Nat) : Int))) ≤ cnt a.length (fun i => decide (a.getD i 0 ≤ ((m + 1 : Nat) : Int))) := cnt_mono fun i hi hb => by
      have := h.2.2.2.2.1 i hi
      have hb := of_decide_eq_true hb
      exact decide_eq_true (by omega)
    have hle0 : cnt a.length (fun i => decide (b.getD i 0 ≤ (m : Int))) ≤ cnt a.length (fun i => decide (a.getD i 0 ≤ (m : Int))) := cnt_mono fun i hi hb => by
      have := h.2.2.2.2.1 i hi
      have hb := of_decide_eq_true hb
      exact decide_eq_true (by omega)
    have hc : ((m + 1 : Nat) : Int) = (m : Int) + 1 := by omega
    rw [hc] at hle ⊢
    rw [potL_succ, scan_append, ih (by omega)]
    simp only [List.foldl_cons, List.foldl_nil]
    rcases h.cover (p := m) (by omega) with hx | hx
    · have hy : ¬ ∃ i, i < a.length ∧ b.getD i 0 = (m : Int) + 1 := fun ⟨j, hj, ej⟩ => by
        obtain ⟨i, hi, ei⟩ := hx
        exact h.2.2.2.2.2 i hi j hj (by rw [ei, ej])
      have hmem : (m : Int) + 1 ∈ a := by
        obtain ⟨i, hi, ei⟩ := hx
        rw [← ei]; exact getD_mem hi
      rw [if_pos hx] at hA
      rw [if_neg hy] at hB
      rw [if_pos hmem]
      show some _ = some _
      congr 1
      omega
    · have hy : ¬ ∃ i, i < a.length ∧ a.getD i 0 = (m : Int) + 1 := fun ⟨j, hj, ej⟩ => by
        obtain ⟨i, hi, ei⟩ := hx
        exact h.2.2.2.2.2 j hj i hi (by rw [ei, ej])
      have hmem : ¬ (m : Int) + 1 ∈ a := fun hm => by
        obtain ⟨j, hj, ej⟩ := mem_getD hm
        exact hy ⟨j, hj, ej⟩
      rw [if_neg hy] at hA
      rw [if_pos hx] at hB
      rw [if_neg hmem]
      show (if _ = 0 then none else some _) = some _
      rw [if_neg (by omega)]
      congr 1
      omega
theorem pot_dyck {a b : List Int} (h : RowsP a b) : DyckP (potL a (2 * a.length)) := by
  refine ⟨by rw [potL_len]; have := h.2.1; omega, ?_⟩
  rw [pot_scan h _ (Nat.le_refl _)]
  have h1 : cnt a.length (fun i => decide (a.getD i 0 ≤ ((2 * a.length : Nat) : Int))) = a.length := cnt_all fun i hi => decide_eq_true (by have := h.bounds hi; omega)
  have h2 : cnt a.length (fun i => decide (b.getD i 0 ≤ ((2 * a.length : Nat) : Int))) = a.length := cnt_all fun i hi => decide_eq_true (by have := h.bounds hi; omega)
  rw [h1, h2]; simp
def evaR (t : List (List Int)) : List (List Int) × Bool := if TabP t then tabR (revD (potL (rw_ t 0) (2 * (rw_ t 0).length))) else ([], false)
theorem evaR_yes {t : List (List Int)} (h : TabP t) : (evaR t).2 = true := by
  unfold evaR tabR
  rw [if_pos h, if_pos (rev_dyck (pot_dyck h.2))]
end Go.Proofs.Ytngfkajfbgfncaa

/- Contracts of ReversePath, the program's and the reference's: both return the same text and bool. No condition but the word's size. -/
namespace Go.Proofs.Ytngfkajfbgfncaa
open Go.RowKit
set_option maxHeartbeats 1000000 in
theorem specReversePath_any (s : ByteArray) (w : World) (hs : s.size ≤ 1099511627776) :
    Calls Try.prog 171 #[.string s] w (RetSB w (rvR (L s))) := by
  by_cases hp : DyckP (L s)
  · have hl16 := hp.1
    rw [L_len] at hl16
    have HV := Lib.hid (show rvR (L s) = (revT (L s) 0, true) by unfold rvR; rw [if_pos hp, revT_zero])
    have HI : Hid (∀ wq, Calls Try.prog 173 #[.string s] wq fun e w' => e = .returned (.bool true) ∧ wq = w') := fun wq => (specIsDyck_any s wq hs).mono fun e w' h => ⟨by rw [h.1]; simp [hp], h.2⟩
    have HF := Lib.hid (show revT (L s) s.size = [] by rw [← L_len]; exact revT_full _)
    clear hp
    go_enter Try.func171, Try.ntmps171
    go_wp2_with fail
    go_loop [4, 5] (fun x i => ∃ m : Nat, m ≤ s.size ∧ i = .int .i64 ((m : Int) - 1) ∧ x = .string (S (revT (L s) m))) (fun _ i => (intOf i + 1).toNat)
    case atStart => exact ⟨s.size, by omega, rfl, by rw [HF.out]; rfl⟩
    case round =>
      obtain ⟨m, hm, rfl, rfl⟩ := hrel
      rcases m with _ | n
      · have f1 : ¬ (0 : Int) ≤ ((0 : Nat) : Int) - 1 := by omega
        go_wp2_with (go_at_call 173; refine (HI.out _).mono ?_; rintro e w' ⟨rfl, rfl⟩)
        go_ret2
        exact RetSB.mk HV.out rfl (Below.refl _ _)
      · have hlt : n < s.size := by omega
        have HS := Lib.hid (revT_pred (l := L s) (m := n) (by rw [L_len]; exact hlt))
        have hsz : (S (revT (L s) (n + 1))).size ≤ 16 := by rw [S_size, revT_len, L_len]; omega
        rw [show (((n + 1 : Nat) : Int) - 1) = (n : Int) by omega]
        have HR := Lib.hid (show ((n : Int) - 1) = (n : Int) - 1 from rfl)
        have hn0 : (0 : Int) ≤ (n : Int) := by omega
        by_cases hu : s[n].toNat = 117
        · have f1 : (((s[n].toNat : Nat) : Int) == 117) = true := by simp; omega
          have HC := Lib.hid (show S (revT (L s) (n + 1)) ++ ⟨#[100]⟩ = S (revT (L s) n) by rw [S_snoc, HS.out]; congr 2; unfold flipC; rw [L_get s n hlt, if_pos hu])
          clear hu
          go_wp2_with (go_at_call 173; refine (HI.out _).mono ?_; rintro e w' ⟨rfl, rfl⟩)
          go_round
          case rel => exact ⟨n, by omega, rfl, by rw [HC.out]⟩
          case measure => simp [intOf]
        · have f1 : (((s[n].toNat : Nat) : Int) == 117) = false := by simp; omega
          have HC := Lib.hid (show S (revT (L s) (n + 1)) ++ ⟨#[117]⟩ = S (revT (L s) n) by rw [S_snoc, HS.out]; congr 2; unfold flipC; rw [L_get s n hlt, if_neg hu])
          clear hu
          go_wp2_with (go_at_call 173; refine (HI.out _).mono ?_; rintro e w' ⟨rfl, rfl⟩)
          go_round
          case rel => exact ⟨n, by omega, rfl, by rw [HC.out]⟩
          case measure => simp [intOf]
  · have HV := Lib.hid (show rvR (L s) = ([], false) by unfold rvR; rw [if_neg hp])
    have HI : Hid (∀ wq, Calls Try.prog 173 #[.string s] wq fun e w' => e = .returned (.bool false) ∧ wq = w') := fun wq => (specIsDyck_any s wq hs).mono fun e w' h => ⟨by rw [h.1]; simp [hp], h.2⟩
    clear hp
    go_enter Try.func171, Try.ntmps171
    go_wp2_with fail
    by_cases h0 : (0 : Int) ≤ (s.size : Int) - 1
    all_goals (
      refine wp_loop_rounds 1 ?_
      rw [rounds_succ]
      go_wp2_with (go_at_call 173; refine (HI.out _).mono ?_; rintro e w' ⟨rfl, rfl⟩)
      go_ret2
      exact RetSB.mk HV.out rfl (Below.refl _ _))
set_option maxHeartbeats 1000000 in
theorem implReversePath_any (s : ByteArray) (w : World) :
    Calls Try.prog 170 #[.string s] w (RetSB w (rvR (L s))) := by
  have HP0 := implIsDyck_any s w
  by_cases hp : DyckP (L s)
  · have hl16 := hp.1
    rw [L_len] at hl16
    simp only [decide_eq_true hp] at HP0
    have HV := Lib.hid (show rvR (L s) = (revT (L s) 0, true) by unfold rvR; rw [if_pos hp, revT_zero])
    have HF := Lib.hid (show revT (L s) s.size = [] by rw [← L_len]; exact revT_full _)
    clear hp
    go_enter Try.func170, Try.ntmps170
    go_wp2_with fail
    refine HP0.mono ?_; rintro e w1 ⟨rfl, b1⟩
    have own0 := OwR.emptyB w1 w.heap.size b1.size
    have hB0 : Below w.heap.size w (w1.alloc (.cells #[] 5)) := b1.alloc b1.size _
    go_wp2_with fail
    generalize w1.alloc (.cells #[] 5) = w2 at own0 hB0 ⊢
    go_loopw [4, 5] (fun x i wr => ∃ m : Nat, m ≤ s.size ∧ i = .int .i64 ((m : Int) - 1) ∧ OwR 5 bf wr w.heap.size x (revT (L s) m) ∧ Below w.heap.size w wr) (fun _ i _ => (intOf i + 1).toNat)
    case atStart => exact ⟨s.size, by omega, rfl, by rw [HF.out]; exact own0, hB0⟩
    case round =>
      clear own0 hB0
      obtain ⟨m, hm, rfl, hx, hB⟩ := hrel
      have hsz := hB.size
      rcases m with _ | n
      · have f1 : ¬ (0 : Int) ≤ ((0 : Nat) : Int) - 1 := by omega
        have kc := conv_row hx
        go_wp2_with fail
        go_ret2
        exact RetSB.mk HV.out rfl hB
      · have hlt : n < s.size := by omega
        have HS := Lib.hid (revT_pred (l := L s) (m := n) (by rw [L_len]; exact hlt))
        have hlen : (revT (L s) (n + 1)).length < 1099511627776 := by rw [revT_len, L_len]; omega
        rw [show (((n + 1 : Nat) : Int) - 1) = (n : Int) by omega]
        have hn0 : (0 : Int) ≤ (n : Int) := by omega
        by_cases hu : s[n].toNat = 117
        · have f1 : (((s[n].toNat : Nat) : Int) == 117) = true := by simp; omega
          have HC := Lib.hid (show revT (L s) n = revT (L s) (n + 1) ++ [100] by rw [HS.out]; congr 2; unfold flipC; rw [L_get s n hlt, if_pos hu])
          clear hu
          go_wp2_with (at_builtin; refine wpList_appB _ rfl _ _ rfl w.heap.size _ _ rfl hx 100 _ rfl rfl rfl hlen hsz ?_)
          intro v' w3 hx3 hg3 hat3
          have hB3 := below_of_own hB hg3 hsz (fun g hg => (hx.lt g hg).1)
          clear hx hg3 hat3
          go_wp2_with fail
          go_roundw
          case rel => exact ⟨n, by omega, rfl, by rw [HC.out]; exact hx3, hB3⟩
          case measure => simp [intOf]
        · have f1 : (((s[n].toNat : Nat) : Int) == 117) = false := by simp; omega
          have HC := Lib.hid (show revT (L s) n = revT (L s) (n + 1) ++ [117] by rw [HS.out]; congr 2; unfold flipC; rw [L_get s n hlt, if_neg hu])
          clear hu
          go_wp2_with (at_builtin; refine wpList_appB _ rfl _ _ rfl w.heap.size _ _ rfl hx 117 _ rfl rfl rfl hlen hsz ?_)
          intro v' w3 hx3 hg3 hat3
          have hB3 := below_of_own hB hg3 hsz (fun g hg => (hx.lt g hg).1)
          clear hx hg3 hat3
          go_wp2_with fail
          go_roundw
          case rel => exact ⟨n, by omega, rfl, by rw [HC.out]; exact hx3, hB3⟩
          case measure => simp [intOf]
  · simp only [decide_eq_false hp] at HP0
    have HV := Lib.hid (show rvR (L s) = ([], false) by unfold rvR; rw [if_neg hp])
    clear hp
    go_enter Try.func170, Try.ntmps170
    go_wp2_with fail
    refine HP0.mono ?_; rintro e w1 ⟨rfl, b1⟩
    go_wp2_with fail
    go_ret2
    exact RetSB.mk HV.out rfl b1
end Go.Proofs.Ytngfkajfbgfncaa

/- Contracts of BracketsOf and PathOfBrackets at a path, the program's and the reference's. Conditions: the word is a path (or a path's brackets). -/
namespace Go.Proofs.Ytngfkajfbgfncaa
open Go.RowKit
/-- a letter's bracket -/
def brC (c : UInt8) : UInt8 := if c.toNat = 117 then 40 else 41
def brk (l : List UInt8) : List UInt8 := l.map brC
theorem brk_len (l : List UInt8) : (brk l).length = l.length := by simp [brk]
theorem brk_succ {l : List UInt8} {k : Nat} (h : k < l.length) : brk (l.take (k + 1)) = brk (l.take k) ++ [brC l[k]] := by
  unfold brk
  rw [List.take_succ_eq_append_getElem h, List.map_append]; rfl
theorem brk_size (l : List UInt8) (k : Nat) : (S (brk (l.take k))).size ≤ l.length := by rw [S_size, brk_len, List.length_take]; omega
theorem take_size (l : List UInt8) (k : Nat) : (S (l.take k)).size ≤ l.length := by rw [S_size, List.length_take]; omega
theorem brk_at {b : ByteArray} {l : List UInt8} (h : L b = brk l) : b.size = l.length := by rw [← L_len, h, brk_len]
theorem brk_get {b : ByteArray} {l : List UInt8} (h : L b = brk l) {k : Nat} (hk : k < b.size) (hl : k < l.length) : b[k] = brC l[k] := by
  rw [← L_get b k hk]
  have : ∀ (x : List UInt8) (hx : L b = x) (hkx : k < x.length), (L b)[k]'(by rw [L_len]; exact hk) = x[k] := by intro x hx hkx; subst hx; rfl
  rw [this _ h (by rw [brk_len]; exact hl)]
  simp [brk]
set_option maxHeartbeats 1000000 in
theorem specBracketsOf_any (s : ByteArray) (w : World) (hp : DyckP (L s)) :
    Calls Try.prog 42 #[.string s] w (RetSB w (brk (L s), true)) := by
  have hl16 := hp.1
  rw [L_len] at hl16
  have HI : Hid (∀ wq, Calls Try.prog 173 #[.string s] wq fun e w' => e = .returned (.bool true) ∧ wq = w') := fun wq => (specIsDyck_any s wq (by omega)).mono fun e w' h => ⟨by rw [h.1]; simp [hp], h.2⟩
  have HF := Lib.hid (show brk ((L s).take s.size) = brk (L s) by rw [← L_len, List.take_length])
  clear hp
  go_enter Try.func42, Try.ntmps42
  go_wp2_with fail
  go_loop [4, 5] (fun x i => ∃ k : Nat, k ≤ s.size ∧ i = .int .i64 k ∧ x = .string (S (brk ((L s).take k)))) (fun _ i => s.size - (intOf i).toNat)
  case atStart => exact ⟨0, by omega, rfl, rfl⟩
  case round =>
    obtain ⟨k, hk, rfl, rfl⟩ := hrel
    by_cases hlt : k < s.size
    · have HS := Lib.hid (brk_succ (l := L s) (k := k) (by rw [L_len]; exact hlt))
      have hsz : (S (brk ((L s).take k))).size ≤ 16 := by have := brk_size (L s) k; rw [L_len] at this; omega
      by_cases hu : s[k].toNat = 117
      · have f1 : (((s[k].toNat : Nat) : Int) == 117) = true := by simp; omega
        have HC := Lib.hid (show S (brk ((L s).take k)) ++ ⟨#[40]⟩ = S (brk ((L s).take (k + 1))) by rw [S_snoc, HS.out]; congr 2; unfold brC; rw [L_get s k hlt, if_pos hu])
        clear hu
        go_wp2_with (go_at_call 173; refine (HI.out _).mono ?_; rintro e w' ⟨rfl, rfl⟩)
        go_round
        case rel => exact ⟨k + 1, by omega, by go_num, by rw [HC.out]⟩
        case measure => simp [intOf]; omega
      · have f1 : (((s[k].toNat : Nat) : Int) == 117) = false := by simp; omega
        have HC := Lib.hid (show S (brk ((L s).take k)) ++ ⟨#[41]⟩ = S (brk ((L s).take (k + 1))) by rw [S_snoc, HS.out]; congr 2; unfold brC; rw [L_get s k hlt, if_neg hu])
        clear hu
        go_wp2_with (go_at_call 173; refine (HI.out _).mono ?_; rintro e w' ⟨rfl, rfl⟩)
        go_round
        case rel => exact ⟨k + 1, by omega, by go_num, by rw [HC.out]⟩
        case measure => simp [intOf]; omega
    · have hke : k = s.size := by omega
      subst hke
      go_wp2_with (go_at_call 173; refine (HI.out _).mono ?_; rintro e w' ⟨rfl, rfl⟩)
      go_ret2
      exact RetSB.mk rfl (by rw [HF.out]) (Below.refl _ _)
set_option maxHeartbeats 1000000 in
theorem specPathOfBrackets_any (b : ByteArray) (l : List UInt8) (w : World) (hb : L b = brk l) (hp : DyckP l) :
    Calls Try.prog 41 #[.string b] w (RetSB w (l, true)) := by
  have hl16 := hp.1
  have hbl := brk_at hb
  have hb16 : b.size ≤ 16 := by omega
  have HI : Hid (∀ wq, Calls Try.prog 173 #[.string (S l)] wq fun e w' => e = .returned (.bool true) ∧ wq = w') := fun wq => (specIsDyck_any (S l) wq (by rw [S_size]; omega)).mono fun e w' h => ⟨by rw [h.1]; simp [L_S, hp], h.2⟩
  have HG : Hid (∀ (k : Nat) (hk : k < b.size) (hl : k < l.length), b[k] = brC l[k]) := Lib.hid (fun k hk hl => brk_get hb hk hl)
  have HD := Lib.hid (fun (k : Nat) (hk : k < l.length) => dyck_letter hp hk)
  have HF := Lib.hid (show l.take b.size = l by rw [hbl, List.take_length])
  have HL := Lib.hid hbl
  clear hp hb hbl hl16
  go_enter Try.func41, Try.ntmps41
  go_wp2_with fail
  go_loop [4, 5] (fun x i => ∃ k : Nat, k ≤ b.size ∧ i = .int .i64 k ∧ x = .string (S (l.take k))) (fun _ i => b.size - (intOf i).toNat)
  case atStart => exact ⟨0, by omega, rfl, rfl⟩
  case round =>
    obtain ⟨k, hk, rfl, rfl⟩ := hrel
    by_cases hlt : k < b.size
    · have hkl : k < l.length := by have := HL.out; omega
      have HS := Lib.hid (List.take_succ_eq_append_getElem hkl)
      have hsz : (S (l.take k)).size ≤ 16 := by rw [S_size, List.length_take]; omega
      have hg := HG.out k hlt hkl
      by_cases hu : l[k].toNat = 117
      · have f1 : (((b[k].toNat : Nat) : Int) == 40) = true := by rw [hg]; unfold brC; rw [if_pos hu]; rfl
        have HC := Lib.hid (show S (l.take k) ++ ⟨#[117]⟩ = S (l.take (k + 1)) by rw [S_snoc, HS.out]; congr 3; exact (UInt8.toNat_inj.1 hu).symm)
        clear hu hg HS hkl
        go_wp2_with fail
        go_round
        case rel => exact ⟨k + 1, by omega, by go_num, by rw [HC.out]⟩
        case measure => simp [intOf]; omega
      · have f1 : (((b[k].toNat : Nat) : Int) == 40) = false := by rw [hg]; unfold brC; rw [if_neg hu]; rfl
        have f2 : (((b[k].toNat : Nat) : Int) == 41) = true := by rw [hg]; unfold brC; rw [if_neg hu]; rfl
        have h100 : l[k].toNat = 100 := by rcases HD.out k hkl with h | h; exact absurd h hu; exact h
        have HC := Lib.hid (show S (l.take k) ++ ⟨#[100]⟩ = S (l.take (k + 1)) by rw [S_snoc, HS.out]; congr 3; exact (UInt8.toNat_inj.1 h100).symm)
        clear hu hg HS h100 hkl
        go_wp2_with fail
        go_round
        case rel => exact ⟨k + 1, by omega, by go_num, by rw [HC.out]⟩
        case measure => simp [intOf]; omega
    · have hke : k = b.size := by omega
      subst hke
      rw [HF.out]
      go_wp2_with (go_at_call 173; refine (HI.out _).mono ?_; rintro e w' ⟨rfl, rfl⟩)
      go_ret2
      exact RetSB.mk rfl rfl (Below.refl _ _)
set_option maxRecDepth 100000 in
set_option maxHeartbeats 1000000 in
theorem implExchU (b : ByteArray) (l : List UInt8) (w : World) (f t : ByteArray) (hf : f.size = 2) (ht : t.size = 2) (hf0 : f[0].toNat = 117) (hf1 : f[1].toNat = 100) (ht0 : t[0].toNat = 40) (ht1 : t[1].toNat = 41) (hb : L b = l) (hp : DyckP l) :
    Calls Try.prog 181 #[.string b, .string f, .string t] w (RetSB w (brk l, true)) := by
  have hl16 := hp.1
  have hbl : b.size = l.length := by rw [← L_len, hb]
  have hb16 : b.size ≤ 16 := by omega
  have HG : Hid (∀ (k : Nat) (hk : k < b.size) (hl : k < l.length), b[k] = l[k]) := Lib.hid (fun k hk hl => by subst hb; rfl)
  have HD := Lib.hid (fun (k : Nat) (hk : k < l.length) => dyck_letter hp hk)
  have HF := Lib.hid (show brk (l.take b.size) = brk l by rw [hbl, List.take_length])
  have HL := Lib.hid hbl
  clear hp hb hbl hl16
  go_enter Try.func181, Try.ntmps181
  go_wp2_with fail
  have own0 := OwR.emptyB w w.heap.size (Nat.le_refl _)
  have hB0 : Below w.heap.size w (w.alloc (.cells #[] 5)) := (Below.refl _ _).alloc (Nat.le_refl _) _
  go_wp2_with fail
  generalize w.alloc (.cells #[] 5) = w2 at own0 hB0 ⊢
  go_loopw [8, 9] (fun x i wr => ∃ k : Nat, k ≤ b.size ∧ i = .int .i64 k ∧ OwR 5 bf wr w.heap.size x (brk (l.take k)) ∧ Below w.heap.size w wr) (fun _ i _ => b.size - (intOf i).toNat)
  case atStart => exact ⟨0, by omega, rfl, own0, hB0⟩
  case round =>
    clear own0 hB0
    obtain ⟨k, hk, rfl, hx, hB⟩ := hrel
    have hsz := hB.size
    by_cases hlt : k < b.size
    · have hkl : k < l.length := by have := HL.out; omega
      have HS := Lib.hid (brk_succ hkl)
      have hlen : (brk (l.take k)).length < 1099511627776 := by simp only [brk_len, List.length_take]; omega
      have hg := HG.out k hlt hkl
      by_cases hu : l[k].toNat = 117
      · have f1 : (((b[k].toNat : Nat) : Int) == 117) = true := by rw [hg, hu]; rfl
        have HC := Lib.hid (show brk (l.take (k + 1)) = brk (l.take k) ++ [40] by rw [HS.out]; congr 2; unfold brC; rw [if_pos hu])
        clear hu hg HS
        go_wp2_with (at_builtin; refine wpList_appB _ rfl _ _ rfl w.heap.size _ _ rfl hx 40 _ (by first | rfl | (rw [ht0]; rfl) | simp [ht0]) rfl rfl hlen hsz ?_)
        intro v' w3 hx3 hg3 hat3
        have hB3 := below_of_own hB hg3 hsz (fun g hg => (hx.lt g hg).1)
        clear hx hg3 hat3
        go_wp2_with fail
        go_roundw
        case rel => exact ⟨k + 1, by omega, by go_num, by rw [HC.out]; exact hx3, hB3⟩
        case measure => simp [intOf]; omega
      · have h100 : l[k].toNat = 100 := by rcases HD.out k hkl with h | h; exact absurd h hu; exact h
        have f1 : (((b[k].toNat : Nat) : Int) == 117) = false := by rw [hg, h100]; rfl
        have f2 : (((b[k].toNat : Nat) : Int) == 100) = true := by rw [hg, h100]; rfl
        have HC := Lib.hid (show brk (l.take (k + 1)) = brk (l.take k) ++ [41] by rw [HS.out]; congr 2; unfold brC; rw [if_neg hu])
        clear hu hg HS h100
        go_wp2_with (at_builtin; refine wpList_appB _ rfl _ _ rfl w.heap.size _ _ rfl hx 41 _ (by first | rfl | (rw [ht1]; rfl) | simp [ht1]) rfl rfl hlen hsz ?_)
        intro v' w3 hx3 hg3 hat3
        have hB3 := below_of_own hB hg3 hsz (fun g hg => (hx.lt g hg).1)
        clear hx hg3 hat3
        go_wp2_with fail
        go_roundw
        case rel => exact ⟨k + 1, by omega, by go_num, by rw [HC.out]; exact hx3, hB3⟩
        case measure => simp [intOf]; omega
    · have hke : k = b.size := by omega
      subst hke
      rw [HF.out] at hx
      have kc := conv_row hx
      go_wp2_with fail
      go_ret2
      exact RetSB.mk rfl rfl hB
set_option maxRecDepth 100000 in
set_option maxHeartbeats 1000000 in
theorem implExchB (b : ByteArray) (l : List UInt8) (w : World) (f t : ByteArray) (hf : f.size = 2) (ht : t.size = 2) (hf0 : f[0].toNat = 40) (hf1 : f[1].toNat = 41) (ht0 : t[0].toNat = 117) (ht1 : t[1].toNat = 100) (hb : L b = brk l) (hp : DyckP l) :
    Calls Try.prog 181 #[.string b, .string f, .string t] w (RetSB w (l, true)) := by
  have hl16 := hp.1
  have hbl : b.size = l.length := brk_at hb
  have hb16 : b.size ≤ 16 := by omega
  have HG : Hid (∀ (k : Nat) (hk : k < b.size) (hl : k < l.length), b[k] = brC l[k]) := Lib.hid (fun k hk hl => brk_get hb hk hl)
  have HD := Lib.hid (fun (k : Nat) (hk : k < l.length) => dyck_letter hp hk)
  have HF := Lib.hid (show l.take b.size = l by rw [hbl, List.take_length])
  have HL := Lib.hid hbl
  clear hp hb hbl hl16
  go_enter Try.func181, Try.ntmps181
  go_wp2_with fail
  have own0 := OwR.emptyB w w.heap.size (Nat.le_refl _)
  have hB0 : Below w.heap.size w (w.alloc (.cells #[] 5)) := (Below.refl _ _).alloc (Nat.le_refl _) _
  go_wp2_with fail
  generalize w.alloc (.cells #[] 5) = w2 at own0 hB0 ⊢
  go_loopw [8, 9] (fun x i wr => ∃ k : Nat, k ≤ b.size ∧ i = .int .i64 k ∧ OwR 5 bf wr w.heap.size x (l.take k) ∧ Below w.heap.size w wr) (fun _ i _ => b.size - (intOf i).toNat)
  case atStart => exact ⟨0, by omega, rfl, own0, hB0⟩
  case round =>
    clear own0 hB0
    obtain ⟨k, hk, rfl, hx, hB⟩ := hrel
    have hsz := hB.size
    by_cases hlt : k < b.size
    · have hkl : k < l.length := by have := HL.out; omega
      have HS := Lib.hid (List.take_succ_eq_append_getElem hkl)
      have hlen : (l.take k).length < 1099511627776 := by simp only [brk_len, List.length_take]; omega
      have hg := HG.out k hlt hkl
      by_cases hu : l[k].toNat = 117
      · have f1 : (((b[k].toNat : Nat) : Int) == 40) = true := by rw [hg]; unfold brC; rw [if_pos hu]; rfl
        have HC := Lib.hid (show l.take (k + 1) = l.take k ++ [117] by rw [HS.out]; congr 2; exact UInt8.toNat_inj.1 hu)
        clear hu hg HS
        go_wp2_with (at_builtin; refine wpList_appB _ rfl _ _ rfl w.heap.size _ _ rfl hx 117 _ (by first | rfl | (rw [ht0]; rfl) | simp [ht0]) rfl rfl hlen hsz ?_)
        intro v' w3 hx3 hg3 hat3
        have hB3 := below_of_own hB hg3 hsz (fun g hg => (hx.lt g hg).1)
        clear hx hg3 hat3
        go_wp2_with fail
        go_roundw
        case rel => exact ⟨k + 1, by omega, by go_num, by rw [HC.out]; exact hx3, hB3⟩
        case measure => simp [intOf]; omega
      · have h100 : l[k].toNat = 100 := by rcases HD.out k hkl with h | h; exact absurd h hu; exact h
        have f1 : (((b[k].toNat : Nat) : Int) == 40) = false := by rw [hg]; unfold brC; rw [if_neg hu]; rfl
        have f2 : (((b[k].toNat : Nat) : Int) == 41) = true := by rw [hg]; unfold brC; rw [if_neg hu]; rfl
        have HC := Lib.hid (show l.take (k + 1) = l.take k ++ [100] by rw [HS.out]; congr 2; exact UInt8.toNat_inj.1 h100)
        clear hu hg HS h100
        go_wp2_with (at_builtin; refine wpList_appB _ rfl _ _ rfl w.heap.size _ _ rfl hx 100 _ (by first | rfl | (rw [ht1]; rfl) | simp [ht1]) rfl rfl hlen hsz ?_)
        intro v' w3 hx3 hg3 hat3
        have hB3 := below_of_own hB hg3 hsz (fun g hg => (hx.lt g hg).1)
        clear hx hg3 hat3
        go_wp2_with fail
        go_roundw
        case rel => exact ⟨k + 1, by omega, by go_num, by rw [HC.out]; exact hx3, hB3⟩
        case measure => simp [intOf]; omega
    · have hke : k = b.size := by omega
      subst hke
      rw [HF.out] at hx
      have kc := conv_row hx
      go_wp2_with fail
      go_ret2
      exact RetSB.mk rfl rfl hB
set_option maxHeartbeats 1000000 in
theorem implBracketsOf_any (s : ByteArray) (w : World) (hp : DyckP (L s)) :
    Calls Try.prog 44 #[.string s] w (RetSB w (brk (L s), true)) := by
  have HP0 := implIsDyck_any s w
  simp only [decide_eq_true hp] at HP0
  have HE := Lib.hid (fun wq => implExchU s (L s) wq ⟨#[117, 100]⟩ ⟨#[40, 41]⟩ rfl rfl rfl rfl rfl rfl rfl hp)
  clear hp
  go_enter Try.func44, Try.ntmps44
  go_wp2_with fail
  refine HP0.mono ?_; rintro e w1 ⟨rfl, b1⟩
  go_wp2_with fail
  refine (HE.out _).mono ?_; rintro e w2 ⟨rfl, b2⟩
  have B2 := below_then b1 b2
  go_wp2_with fail
  go_ret2
  exact RetSB.mk rfl rfl B2
set_option maxHeartbeats 1000000 in
theorem implPathOfBrackets_any (b : ByteArray) (l : List UInt8) (w : World) (hb : L b = brk l) (hp : DyckP l) :
    Calls Try.prog 45 #[.string b] w (RetSB w (l, true)) := by
  have HE := implExchB b l w ⟨#[40, 41]⟩ ⟨#[117, 100]⟩ rfl rfl rfl rfl rfl rfl hb hp
  have HP : Hid (∀ wq, Calls Try.prog 172 #[.string (S l)] wq fun e w' => e = .returned (.bool true) ∧ Below wq.heap.size wq w') := Lib.hid (fun wq => by have h := implIsDyck_any (S l) wq; simp only [L_S, decide_eq_true hp] at h; exact h)
  clear hp hb
  go_enter Try.func45, Try.ntmps45
  go_wp2_with fail
  refine HE.mono ?_; rintro e w1 ⟨rfl, b1⟩
  go_wp2_with fail
  refine (HP.out _).mono ?_; rintro e w2 ⟨rfl, b2⟩
  have B2 := below_then b1 b2
  go_wp2_with fail
  go_ret2
  exact RetSB.mk rfl rfl B2
end Go.Proofs.Ytngfkajfbgfncaa

/- Contracts of DepthOf at a path's brackets, the program's and the reference's. Condition: the word is a path's brackets. -/
namespace Go.Proofs.Ytngfkajfbgfncaa
open Go.RowKit
/-- the greatest height ahead of a place -/
def mxN (l : List UInt8) : Nat → Nat
  | 0 => 0
  | k + 1 => max (mxN l k) (hN l k)
def depthV (l : List UInt8) : Int := ((mxN l (l.length + 1) : Nat) : Int)
theorem mxN_succ (l : List UInt8) (k : Nat) : mxN l (k + 1) = max (mxN l k) (hN l k) := rfl
set_option maxHeartbeats 1000000 in
theorem specDepthOf_any (b : ByteArray) (l : List UInt8) (w : World) (hb : L b = brk l) (hp : DyckP l) :
    Calls Try.prog 50 #[.string b] w fun e w' => e = .returned (.int .i64 (depthV l)) ∧ Below w.heap.size w w' := by
  have HE := specPathOfBrackets_any b l w hb hp
  have hl16 := hp.1
  have HH : Hid (∀ wq, Calls Try.prog 183 #[.string (S l)] wq (RetI wq (hL l l.length))) := Lib.hid (fun wq => by have h := specHeightsOf_any (S l) wq (by rw [S_size]; omega); rw [L_S, hoR_yes hp] at h; exact h)
  have hrl := hL_len l l.length
  obtain ⟨n, hn⟩ : ∃ n, n = l.length := ⟨_, rfl⟩
  have HV := Lib.hid (show depthV l = ((mxN l (n + 1) : Nat) : Int) by rw [hn]; rfl)
  have HK := Lib.hid (fun (k : Nat) (hk : k ≤ n) => hN_le l hp k (by omega))
  rw [← hn] at HH hrl hl16
  have HRL := Lib.hid hrl
  have HN0 := Lib.hid hn
  clear hp hb hrl hn
  go_enter Try.func50, Try.ntmps50
  go_wp2_with fail
  refine HE.mono ?_; rintro e w1 ⟨rfl, b1⟩
  go_wp2_with fail
  refine (HH.out _).mono ?_; rintro e w2 ⟨r, rfl, o2, b2⟩
  have B2 := below_then b1 b2
  obtain ⟨g, cap, rfl⟩ : ∃ g cap, r = .slice (some ⟨g, 0, none⟩) (n + 1) cap := by
    rcases o2.shape with ⟨_, e⟩ | ⟨g, cap, e, _, _⟩
    · have := HRL.out; rw [e] at this; simp at this
    · exact ⟨g, cap, by rw [e, HRL.out]⟩
  go_wp2_with fail
  go_loop [6, 7] (fun x i => ∃ k : Nat, k ≤ n + 1 ∧ i = .int .i64 k ∧ x = .int .i64 ((mxN l k : Nat) : Int)) (fun _ i => n + 1 - (intOf i).toNat)
  case atStart => exact ⟨0, by omega, rfl, rfl⟩
  case round =>
    obtain ⟨k, hk, rfl, rfl⟩ := hrel
    by_cases hlt : k < n + 1
    · have c1 := o2.cellAt k (by rw [HRL.out]; exact hlt)
      rw [hL_at] at c1
      have HS := Lib.hid (mxN_succ l k)
      go_wp2_with fail
      go_round
      case rel => exact ⟨k + 1, by omega, by go_num, by rw [HS.out]; congr 1; omega⟩
      case measure => simp [intOf]; omega
    · have hke : k = n + 1 := by omega
      subst hke
      go_wp2_with fail
      go_ret
      exact ⟨ret_int HV.out.symm, B2⟩
set_option maxHeartbeats 1000000 in
theorem implDepthOf_any (b : ByteArray) (l : List UInt8) (w : World) (hb : L b = brk l) (hp : DyckP l) :
    Calls Try.prog 49 #[.string b] w fun e w' => e = .returned (.int .i64 (depthV l)) ∧ Below w.heap.size w w' := by
  have HE := implPathOfBrackets_any b l w hb hp
  have hl16 := hp.1
  have HH : Hid (∀ wq, Calls Try.prog 182 #[.string (S l)] wq (RetI wq (hL l l.length))) := Lib.hid (fun wq => by have h := implHeightsOf_any (S l) wq; rw [L_S, hoR_yes hp] at h; exact h)
  have hrl := hL_len l l.length
  obtain ⟨n, hn⟩ : ∃ n, n = l.length := ⟨_, rfl⟩
  have HV := Lib.hid (show depthV l = ((mxN l (n + 1) : Nat) : Int) by rw [hn]; rfl)
  have HK := Lib.hid (fun (k : Nat) (hk : k ≤ n) => hN_le l hp k (by omega))
  rw [← hn] at HH hrl hl16
  have HRL := Lib.hid hrl
  have HN0 := Lib.hid hn
  clear hp hb hrl hn
  go_enter Try.func49, Try.ntmps49
  go_wp2_with fail
  refine HE.mono ?_; rintro e w1 ⟨rfl, b1⟩
  go_wp2_with fail
  refine (HH.out _).mono ?_; rintro e w2 ⟨r, rfl, o2, b2⟩
  have B2 := below_then b1 b2
  obtain ⟨g, cap, rfl⟩ : ∃ g cap, r = .slice (some ⟨g, 0, none⟩) (n + 1) cap := by
    rcases o2.shape with ⟨_, e⟩ | ⟨g, cap, e, _, _⟩
    · have := HRL.out; rw [e] at this; simp at this
    · exact ⟨g, cap, by rw [e, HRL.out]⟩
  go_wp2_with fail
  go_loop [5, 18] (fun x i => ∃ k : Nat, k ≤ n + 1 ∧ i = .int .i64 k ∧ x = .int .i64 ((mxN l k : Nat) : Int)) (fun _ i => n + 1 - (intOf i).toNat)
  case atStart => exact ⟨0, by omega, rfl, rfl⟩
  case round =>
    obtain ⟨k, hk, rfl, rfl⟩ := hrel
    by_cases hlt : k < n + 1
    · have c1 := o2.cellAt k (by rw [HRL.out]; exact hlt)
      rw [hL_at] at c1
      have HS := Lib.hid (mxN_succ l k)
      go_wp2_with fail
      go_round
      case rel => exact ⟨k + 1, by omega, by go_num, by rw [HS.out]; congr 1; omega⟩
      case measure => simp [intOf]; omega
    · have hke : k = n + 1 := by omega
      subst hke
      go_wp2_with fail
      go_ret
      exact ⟨ret_int HV.out.symm, B2⟩
end Go.Proofs.Ytngfkajfbgfncaa

/- The run of equal letters at a word's begin or end: the reference's l13Run. Condition: the word's size. -/
namespace Go.Proofs.Ytngfkajfbgfncaa
open Go.RowKit
/-- how many letters at the begin are up -/
def runU (l : List UInt8) : Nat := (l.takeWhile fun c => decide (c.toNat = 117)).length
/-- how many letters at the end are down -/
def runD (l : List UInt8) : Nat := (l.reverse.takeWhile fun c => decide (c.toNat = 100)).length
theorem tw_len {p : UInt8 → Bool} : ∀ (l : List UInt8) (k : Nat), k ≤ l.length → (∀ i (hi : i < l.length), i < k → p l[i] = true) → (∀ (hk : k < l.length), p l[k] = false) → (l.takeWhile p).length = k
  | [], k, h, _, _ => by simp at h; subst h; rfl
  | c :: l, 0, _, _, h => by
    have h0 : p c = false := h (by simp)
    simp [List.takeWhile, h0]
  | c :: l, k + 1, hk, ha, he => by
    have h0 : p c = true := ha 0 (by simp) (by omega)
    have ih := tw_len (p := p) l k (by simpa using hk) (fun i hi hik => ha (i + 1) (by simpa using hi) (by omega)) (fun hk' => he (by simpa using hk'))
    simp [List.takeWhile, h0, ih]
theorem runU_at {s : ByteArray} {k : Nat} (hk : k ≤ s.size) (ha : ∀ i (hi : i < s.size), i < k → s[i].toNat = 117) (he : ∀ (h : k < s.size), ¬ s[k].toNat = 117) : runU (L s) = k :=
  tw_len _ _ (by rw [L_len]; exact hk) (fun i hi hik => by rw [L_get s i (by rw [← L_len]; exact hi)]; exact decide_eq_true (ha i _ hik)) (fun h => by rw [L_get s k (by rw [← L_len]; exact h)]; exact decide_eq_false (he _))
theorem runD_at {s : ByteArray} {k : Nat} (hk : k ≤ s.size) (ha : ∀ i (hi : s.size - 1 - i < s.size), i < k → s[s.size - 1 - i].toNat = 100) (he : ∀ (h : s.size - 1 - k < s.size), k < s.size → ¬ s[s.size - 1 - k].toNat = 100) : runD (L s) = k :=
  tw_len _ _ (by rw [List.length_reverse, L_len]; exact hk)
    (fun i hi hik => by
      rw [List.length_reverse, L_len] at hi
      have e : (L s).reverse[i]'(by rw [List.length_reverse, L_len]; exact hi) = s[s.size - 1 - i]'(by omega) := by rw [List.getElem_reverse]; simp only [L_len]; rfl
      rw [e]; exact decide_eq_true (ha i (by omega) hik))
    (fun h => by
      rw [List.length_reverse, L_len] at h
      have e : (L s).reverse[k]'(by rw [List.length_reverse, L_len]; exact h) = s[s.size - 1 - k]'(by omega) := by rw [List.getElem_reverse]; simp only [L_len]; rfl
      rw [e]; exact decide_eq_false (he (by omega) h))
set_option maxHeartbeats 1000000 in
theorem specRunU_any (s : ByteArray) (w : World) (hs : s.size ≤ 1099511627776) :
    Calls Try.prog 249 #[.string s, .bool false] w fun e w' => e = .returned (.int .i64 ((runU (L s) : Nat) : Int)) ∧ w = w' := by
  go_enter Try.func249, Try.ntmps249
  go_wp2_with fail
  go_loop [5] (fun i => ∃ k : Nat, k ≤ s.size ∧ i = .int .i64 k ∧ Hid (∀ j (hj : j < s.size), j < k → s[j].toNat = 117)) (fun i => s.size - (intOf i).toNat)
  case atStart => exact ⟨0, by omega, rfl, Lib.hid (fun j _ h => absurd h (by omega))⟩
  case round =>
    obtain ⟨k, hk, rfl, HA⟩ := hrel
    by_cases hlt : k < s.size
    · have hk0 : 0 ≤ (k : Int) := by omega
      by_cases hu : s[k].toNat = 117
      · have HA' : Hid (∀ j (hj : j < s.size), j < k + 1 → s[j].toNat = 117) := Lib.hid (fun j hj hjk => by
          rcases Nat.lt_or_ge j k with h | h
          · exact HA.out j hj h
          · obtain rfl : j = k := by omega
            exact hu)
        have f1 : (((s[k].toNat : Nat) : Int) == 117) = true := by simp; omega
        clear hu
        go_wp2_with fail
        go_round
        case rel => exact ⟨k + 1, by omega, by go_num, HA'⟩
        case measure => simp [intOf]; omega
      · have HV := Lib.hid (show runU (L s) = k from runU_at hk HA.out (fun _ => hu))
        have f1 : (((s[k].toNat : Nat) : Int) == 117) = false := by simp; omega
        clear hu
        go_wp2_with fail
        go_ret
        exact ⟨ret_int (by rw [HV.out]), rfl⟩
    · have hke : k = s.size := by omega
      have HV := Lib.hid (show runU (L s) = k from runU_at hk HA.out (fun h => absurd h (by omega)))
      subst hke
      go_wp2_with fail
      go_ret
      exact ⟨ret_int (by rw [HV.out]), rfl⟩
set_option maxHeartbeats 1000000 in
theorem specRunD_any (s : ByteArray) (w : World) (hs : s.size ≤ 1099511627776) :
    Calls Try.prog 249 #[.string s, .bool true] w fun e w' => e = .returned (.int .i64 ((runD (L s) : Nat) : Int)) ∧ w = w' := by
  go_enter Try.func249, Try.ntmps249
  go_wp2_with fail
  go_loop [5] (fun i => ∃ k : Nat, k ≤ s.size ∧ i = .int .i64 k ∧ Hid (∀ j (hj : s.size - 1 - j < s.size), j < k → s[s.size - 1 - j].toNat = 100)) (fun i => s.size - (intOf i).toNat)
  case atStart => exact ⟨0, by omega, rfl, Lib.hid (fun j _ h => absurd h (by omega))⟩
  case round =>
    obtain ⟨k, hk, rfl, HA⟩ := hrel
    by_cases hlt : k < s.size
    · have hk1 : s.size - 1 - k < s.size := by omega
      have hq : (s.size : Int) - 1 - (k : Int) = ((s.size - 1 - k : Nat) : Int) := by omega
      by_cases hu : s[s.size - 1 - k].toNat = 100
      · have HA' : Hid (∀ j (hj : s.size - 1 - j < s.size), j < k + 1 → s[s.size - 1 - j].toNat = 100) := Lib.hid (fun j hj hjk => by
          rcases Nat.lt_or_ge j k with h | h
          · exact HA.out j hj h
          · obtain rfl : j = k := by omega
            exact hu)
        have f1 : (((s[s.size - 1 - k].toNat : Nat) : Int) == 100) = true := by simp; omega
        clear hu
        go_wp2_with fail
        go_round
        case rel => exact ⟨k + 1, by omega, by go_num, HA'⟩
        case measure => simp [intOf]; omega
      · have HV := Lib.hid (show runD (L s) = k from runD_at hk HA.out (fun _ _ => hu))
        have f1 : (((s[s.size - 1 - k].toNat : Nat) : Int) == 100) = false := by simp; omega
        clear hu
        go_wp2_with fail
        go_ret
        exact ⟨ret_int (by rw [HV.out]), rfl⟩
    · have hke : k = s.size := by omega
      have HV := Lib.hid (show runD (L s) = k from runD_at hk HA.out (fun _ h => absurd h (by omega)))
      subst hke
      go_wp2_with fail
      go_ret
      exact ⟨ret_int (by rw [HV.out]), rfl⟩
end Go.Proofs.Ytngfkajfbgfncaa

/- The children of a place in a list of parents, in plain words. -/
namespace Go.Proofs.Ytngfkajfbgfncaa
open Go.RowKit
/-- the places ahead of k whose parent is v -/
def chN (p : List Int) (v : Int) (k : Nat) : List Int := (List.range k).flatMap fun (i : Nat) => if p.getD i 0 = v then [(i : Int)] else []
theorem chN_succ (p : List Int) (v : Int) (k : Nat) : chN p v (k + 1) = chN p v k ++ (if p.getD k 0 = v then [(k : Int)] else []) := by simp [chN, List.range_succ]
theorem chN_hit {p : List Int} {v : Int} {k : Nat} (hk : k < p.length) (h : p[k] = v) : chN p v (k + 1) = chN p v k ++ [(k : Int)] := by
  rw [chN_succ, if_pos (by simp [List.getD, hk, h])]
theorem chN_miss {p : List Int} {v : Int} {k : Nat} (hk : k < p.length) (h : ¬ p[k] = v) : chN p v (k + 1) = chN p v k := by
  rw [chN_succ, if_neg (by simp [List.getD, hk, h]), List.append_nil]
theorem chN_len (p : List Int) (v : Int) (k : Nat) : (chN p v k).length ≤ k := by
  induction k with
  | zero => simp [chN]
  | succ k ih => rw [chN_succ, List.length_append]; split <;> simp <;> omega
theorem chN_one {p : List Int} {v : Int} (h0 : 0 < p.length) (h : ¬ p[0] = v) : chN p v 1 = [] := by rw [chN_miss h0 h]; rfl
/-- how many of the places ahead of k have no child -/
def lvN (p : List Int) : Nat → Nat
  | 0 => 0
  | k + 1 => lvN p k + (if (chN p (k : Int) p.length).length = 0 then 1 else 0)
theorem lvN_le (p : List Int) (k : Nat) : lvN p k ≤ k := by
  induction k with
  | zero => exact Nat.le_refl _
  | succ k ih => unfold lvN; split <;> omega
end Go.Proofs.Ytngfkajfbgfncaa
