/- Words for memory: a slice value that reads as a list of numbers, a slice value that owns such a list; both are kept over calls that leave old blocks alone. No condition. -/
import Derived.Test.YtnkkgfeegaiakaaProg
import Derived.Test.YtnkkgfeegaiakaaPlain
import Derived.WalkKit
import Derived.WalkSpells
import Derived.Deep.QuietTactic
import Derived.BigQuiet
import Derived.Lib.Hide
namespace Go.Proofs.Ytnkkgfeegaiakaa
open Go.RowKit

/-- a slice value that reads as a list of numbers -/
def RdI (w : World) (v : Value) (xs : List Int) : Prop :=
  ∃ A c, v = .slice A xs.length c ∧ xs.length ≤ c ∧ xs.length ≤ 1099511627776 ∧ (0 < xs.length → ∃ b o, A = some ⟨b, o, none⟩ ∧ b < w.heap.size ∧ ∀ k (_ : k < xs.length), w.cell? ⟨b, o + k, none⟩ = some (.int .i64 xs[k]))
/-- a slice value that owns a row of cells of type e in a block from base on -/
def Own (w : World) (base : Nat) (e : TypeId) (v : Value) (cs : List Value) : Prop :=
  w.ownsRow base e 1 v cs.length cs ∧ cs.length ≤ 1099511627776
/-- a slice value that owns a row of numbers in a block from base on -/
def OwI (w : World) (base : Nat) (v : Value) (xs : List Int) : Prop :=
  w.ownsRow base 3 1 v xs.length (xs.map (Value.int .i64)) ∧ xs.length ≤ 1099511627776

theorem ne_of_lt_len {n : Nat} (h : n = 0) (h' : 0 < n) : False := by omega
theorem OwI.rd {w : World} {base : Nat} {v : Value} {xs : List Int} (h : OwI w base v xs) : RdI w v xs := by
  obtain ⟨h, hl⟩ := h
  rcases h.2 with ⟨rfl, h0⟩ | ⟨g, cap, cur, rfl, hb, hh, hn, hm, hs, ht⟩
  · have hx : xs = [] := List.eq_nil_of_length_eq_zero h0
    subst hx
    exact ⟨none, 0, rfl, Nat.le_refl _, by simp, fun h => by simp at h⟩
  · refine ⟨_, cap, rfl, hn, hl, fun _ => ⟨g, 0, rfl, ?_, fun k hk => ?_⟩⟩
    · rcases Nat.lt_or_ge g w.heap.size with hlt | hge
      · exact hlt
      · rw [Array.getElem?_eq_none hge] at hh; cases hh
    · rw [Nat.zero_add, h.cellAt k (by simpa using hk)]
      simp [hk]
theorem RdI.of_block {w w' : World} {v : Value} {xs : List Int} (h : RdI w v xs) (hs : w.heap.size ≤ w'.heap.size) (hb : ∀ k, k < w.heap.size → w'.heap[k]? = w.heap[k]?) : RdI w' v xs := by
  obtain ⟨A, c, rfl, h1, h2, h3⟩ := h
  refine ⟨A, c, rfl, h1, h2, fun h0 => ?_⟩
  obtain ⟨b, o, rfl, hlt, hc⟩ := h3 h0
  exact ⟨b, o, rfl, Nat.lt_of_lt_of_le hlt hs, fun k hk => (World.cell?_of_block (a := ⟨b, o + k, none⟩) (hb b hlt)).trans (hc k hk)⟩
theorem RdI.below {w w' : World} {v : Value} {xs : List Int} (h : RdI w v xs) (hb : Below w.heap.size w w') : RdI w' v xs := h.of_block hb.size hb.block
theorem RdI.drewN {w : World} {v : Value} {xs : List Int} (h : RdI w v xs) (q : Nat) : RdI (w.drewN q) v xs := h
theorem RdI.len_le {w : World} {v : Value} {xs : List Int} (h : RdI w v xs) : xs.length ≤ 1099511627776 := by
  obtain ⟨A, c, rfl, h1, h2, h3⟩ := h; exact h2
theorem RdI.at_ {w : World} {A : Option Addr} {n c : Nat} {xs : List Int} (h : RdI w (.slice A n c) xs) : 0 < xs.length → ∃ b o, A = some ⟨b, o, none⟩ ∧ b < w.heap.size ∧ ∀ k (_ : k < xs.length), w.cell? ⟨b, o + k, none⟩ = some (.int .i64 xs[k]) := by
  obtain ⟨A', c', e, h1, h2, h3⟩ := h
  injection e with e1 e2 e3
  subst e1
  exact h3
theorem RdI.nil_ (w : World) : RdI w (.slice none 0 0) [] := ⟨none, 0, rfl, Nat.le_refl _, by simp, fun h => by simp at h⟩
theorem OwI.nil_ (w : World) (base : Nat) : OwI w base (.slice none 0 0) [] := ⟨World.ownsRow_nil _ _ _ _, by simp⟩
theorem OwI.lt {w : World} {base : Nat} {v : Value} {xs : List Int} (h : OwI w base v xs) : ∀ k, v.ownBlock = some k → base ≤ k ∧ k < w.heap.size := h.1.lt
theorem OwI.grown {w w' : World} {base : Nat} {v : Value} {xs : List Int} {row : Option Nat} (h : OwI w base v xs) (hg : w.grownBy w' row) (hne : v.ownBlock = none ∨ v.ownBlock ≠ row) : OwI w' base v xs := ⟨h.1.kept hg hne, h.2⟩
theorem grown_of_below {w w' : World} (h : Below w.heap.size w w') : w.grownBy w' none := ⟨h.os, h.tape, h.output, h.size, fun k hk _ => h.block k hk⟩
theorem below_of_grown {w w' : World} (h : w.grownBy w' none) : Below w.heap.size w w' := ⟨h.os, h.tape, h.output, h.size, fun k hk => h.block k hk (by simp)⟩
theorem OwI.below {w w' : World} {base : Nat} {v : Value} {xs : List Int} (h : OwI w base v xs) (hb : Below w.heap.size w w') : OwI w' base v xs := by
  refine h.grown (grown_of_below hb) ?_
  cases hv : v.ownBlock <;> simp
theorem OwI.drewN {w : World} {base : Nat} {v : Value} {xs : List Int} (h : OwI w base v xs) (q : Nat) : OwI (w.drewN q) base v xs := h
theorem OwI.mono {w : World} {base base' : Nat} {v : Value} {xs : List Int} (h : OwI w base v xs) (hb : base' ≤ base) : OwI w base' v xs := by
  obtain ⟨⟨h1, h2⟩, h3⟩ := h
  refine ⟨⟨h1, ?_⟩, h3⟩
  rcases h2 with h2 | ⟨g, cap, cur, e1, e2, e3⟩
  · exact .inl h2
  · exact .inr ⟨g, cap, cur, e1, Nat.le_trans hb e2, e3⟩
theorem OwI.len_le {w : World} {base : Nat} {v : Value} {xs : List Int} (h : OwI w base v xs) : xs.length ≤ 1099511627776 := h.2
/-- the shape of an owned slice that is not empty -/
theorem OwI.shape {w : World} {base : Nat} {v : Value} {xs : List Int} (h : OwI w base v xs) : (v = .slice none 0 0 ∧ xs = []) ∨ ∃ g cap, v = .slice (some ⟨g, 0, none⟩) xs.length cap ∧ base ≤ g ∧ g < w.heap.size := by
  rcases h.1.2 with ⟨e, h0⟩ | ⟨g, cap, cur, e, hb, hh, _⟩
  · exact .inl ⟨e, List.eq_nil_of_length_eq_zero h0⟩
  · refine .inr ⟨g, cap, e, hb, ?_⟩
    rcases Nat.lt_or_ge g w.heap.size with hlt | hge
    · exact hlt
    · rw [Array.getElem?_eq_none hge] at hh; cases hh
theorem below_drewN {B : Nat} {a w : World} (h : Below B a w) (q : Nat) : Below B a (w.drewN q) := ⟨h.os, h.tape, h.output, h.size, h.block⟩
theorem drewN_two (w : World) (p q : Nat) : (w.drewN p).drewN q = w.drewN (p + q) := by simp [World.drewN, Nat.add_assoc]
theorem below_then {a b c : World} (h : Below a.heap.size a b) (k : Below b.heap.size b c) : Below a.heap.size a c := h.trans (k.mono h.size)
theorem below_draws (w : World) (q : Nat) : Below w.heap.size w (w.drewN q) := below_drewN (Below.refl _ _) q
theorem below_up {a b : World} {B : Nat} (h : Below b.heap.size b a) (hB : B ≤ b.heap.size) : Below B b a := h.mono hB

theorem info_int : (Try.prog.info? 3).map (fun i => (i.zero, i.size, i.bytes)) = some (some (.int .i64 0), 1, 8) := by kernel_rfl

/-- what a call that only draws leaves alone -/
theorem to_below {P : Program} {f : FuncId} {args : Array Value} {w : World} {E : Ending} (h : Calls P f args w fun e w' => e = E ∧ ∃ q, w' = w.drewN q) :
    Calls P f args w fun e w' => e = E ∧ Below w.heap.size w w' := h.mono fun e w' ⟨h1, q, h2⟩ => ⟨h1, by rw [h2]; exact below_draws w q⟩
theorem to_below' {P : Program} {f : FuncId} {args : Array Value} {w : World} {E : Ending} (h : Calls P f args w fun e w' => e = E ∧ w = w') :
    Calls P f args w fun e w' => e = E ∧ Below w.heap.size w w' := h.mono fun e w' ⟨h1, h2⟩ => ⟨h1, by rw [← h2]; exact Below.refl _ _⟩
/-- the numbers from k on -/
def marks (k : Int) (n : Nat) : List Int := (List.range n).map (fun (i : Nat) => k + (i : Int))
theorem marks_len (k : Int) (n : Nat) : (marks k n).length = n := by simp [marks]
theorem marks_succ (k : Int) (n : Nat) : marks k (n + 1) = marks k n ++ [k + (n : Int)] := by simp [marks, List.range_succ]
theorem set_append_mid {α : Type} (l r : List α) (x y : α) (k : Nat) (hk : l.length = k) : (l ++ x :: r).set k y = (l ++ [y]) ++ r := by
  subst hk; simp
theorem take_succ_get {α : Type} (l : List α) (k : Nat) (h : k < l.length) : l.take (k + 1) = l.take k ++ [l[k]] := by
  rw [List.take_succ_eq_append_getElem h]
theorem drop_get_cons {α : Type} (l : List α) (k : Nat) (h : k < l.length) : l.drop k = l[k] :: l.drop (k + 1) := by
  rw [List.drop_eq_getElem_cons h]
theorem fill_set {α β : Type} (f : α → β) (z : α) (xs : List α) (k : Nat) (h : k < xs.length) : (xs.take (k + 1) ++ List.replicate (xs.length - (k + 1)) z).map f = ((xs.take k ++ List.replicate (xs.length - k) z).map f).set k (f xs[k]) := by
  have e : xs.length - k = (xs.length - (k + 1)) + 1 := by omega
  rw [e, List.replicate_succ, List.map_append, List.map_append, List.map_cons, set_append_mid _ _ _ _ k (by simp; omega), take_succ_get _ _ h, List.map_append]
  rfl
theorem mark_set {β : Type} (f : Int → β) (k0 : Int) (xs : List Int) (k : Nat) (h : k < xs.length) : (marks k0 (k + 1) ++ xs.drop (k + 1)).map f = ((marks k0 k ++ xs.drop k).map f).set k (f (k0 + (k : Int))) := by
  rw [drop_get_cons _ _ h, List.map_append, List.map_append, List.map_cons, set_append_mid _ _ _ _ k (by simp [marks]), marks_succ, List.map_append]
  rfl
theorem get_mid {α β : Type} (f : α → β) (l r : List α) (k : Nat) (hk : l.length = k) (h : k < r.length) : ((l ++ r.drop k).map f)[k]? = some (f r[k]) := by
  subst hk
  rw [List.map_append, List.getElem?_append_right (by simp)]
  simp [h]
theorem ret_int {k : IntKind} {a b : Int} (h : a = b) : Ending.returned (.int k a) = .returned (.int k b) := by rw [h]
theorem ret_bool {a b : Bool} (h : a = b) : Ending.returned (.bool a) = .returned (.bool b) := by rw [h]
end Go.Proofs.Ytnkkgfeegaiakaa
