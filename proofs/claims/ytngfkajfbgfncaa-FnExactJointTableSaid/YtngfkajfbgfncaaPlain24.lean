/- The plane of a path (parents in preorder, -1 first), in plain words: built with a stack; each parent stands in the chain of the vertex before. No condition. -/
import Derived.Test.YtngfkajfbgfncaaGround
namespace Go.Proofs.Ytngfkajfbgfncaa
/-- the chain of parents from v on comes to x -/
inductive Up (p : List Int) (x : Nat) : Nat → Prop
  | here : Up p x x
  | up {v u : Nat} : v < p.length → p.getD v 0 = (u : Int) → u < v → Up p x u → Up p x v
theorem Up.grow {p : List Int} {x v : Nat} (h : Up p x v) (q : List Int) : Up (p ++ q) x v := by
  induction h with
  | here => exact .here
  | @up v u h1 h2 h3 _ ih =>
    refine .up (by rw [List.length_append]; omega) ?_ h3 ih
    rw [← h2]; simp [List.getD, List.getElem?_append_left h1]
theorem Up.parent {p : List Int} {x v u : Nat} (h : Up p x v) (hx : x < p.length) (hu : p.getD x 0 = (u : Int)) (hux : u < x) : Up p u v := by
  induction h with
  | here => exact .up hx hu hux .here
  | up h1 h2 h3 _ ih => exact .up h1 h2 h3 ih
theorem Up.le {p : List Int} {x v : Nat} (h : Up p x v) : x ≤ v := by
  induction h with
  | here => exact Nat.le_refl _
  | up _ _ h3 _ ih => omega
/-- what the chain does at a vertex that is not its end -/
theorem Up.step {p : List Int} {x v : Nat} (h : Up p x v) (hne : v ≠ x) : ∃ u : Nat, p.getD v 0 = (u : Int) ∧ u < v ∧ Up p x u := by
  cases h with
  | here => exact absurd rfl hne
  | up h1 h2 h3 h4 => exact ⟨_, h2, h3, h4⟩
structure PL (p : List Int) : Prop where
  pos : 0 < p.length
  root : p.getD 0 0 = -1
  chain : ∀ i, 1 ≤ i → i < p.length → ∃ j : Nat, p.getD i 0 = (j : Int) ∧ j < i ∧ Up p j (i - 1)
structure PlS where
  p : List Int
  st : List Int
def plF (s : PlS) (c : UInt8) : PlS := if c.toNat = 117 then ⟨s.p ++ [s.st.getLastD 0], s.st ++ [(s.p.length : Int)]⟩ else ⟨s.p, s.st.dropLast⟩
def plS (l : List UInt8) : PlS := l.foldl plF ⟨[-1], [0]⟩
theorem plS_succ {l : List UInt8} {k : Nat} (h : k < l.length) : plS (l.take (k + 1)) = plF (plS (l.take k)) l[k] := by
  rw [List.take_succ_eq_append_getElem h]; simp only [plS, List.foldl_append, List.foldl_cons, List.foldl_nil]
structure PlInv (l : List UInt8) (k : Nat) (s : PlS) : Prop where
  is : plS (l.take k) = s
  pl : PL s.p
  len : s.p.length ≤ k + 1
  ht : s.st.length = hN l k + 1
  stk : ∀ r (_ : r < s.st.length), ∃ v : Nat, s.st[r] = (v : Int) ∧ v < s.p.length ∧ (1 ≤ r → s.p.getD v 0 = s.st.getD (r - 1) 0 ∧ s.st.getD (r - 1) 0 < (v : Int))
  top : ∃ t : Nat, s.st.getLastD 0 = (t : Int) ∧ t < s.p.length ∧ Up s.p t (s.p.length - 1)
theorem PlInv.start (l : List UInt8) : PlInv l 0 ⟨[-1], [0]⟩ :=
  ⟨rfl, ⟨by simp, rfl, fun i h1 h2 => by simp at h2; omega⟩, by simp, rfl, fun r hr => by
    have : r = 0 := by simp at hr; omega
    subst this
    exact ⟨0, rfl, by simp, fun h => by omega⟩, ⟨0, rfl, by simp, .here⟩⟩
theorem getD_app_left {l m : List Int} {i : Nat} (h : i < l.length) : (l ++ m).getD i 0 = l.getD i 0 := by simp [List.getD, List.getElem?_append_left h]
theorem getD_app_one {l : List Int} {x : Int} : (l ++ [x]).getD l.length 0 = x := by simp [List.getD]
theorem PlInv.up {l : List UInt8} {k : Nat} {s : PlS} (h : PlInv l k s) (hd : DyckP l) (hk : k < l.length) (hu : l[k].toNat = 117) : PlInv l (k + 1) ⟨s.p ++ [s.st.getLastD 0], s.st ++ [(s.p.length : Int)]⟩ := by
  obtain ⟨t, ht1, ht2, ht3⟩ := h.top
  have hp := h.pl
  have hs := h.ht
  refine ⟨by rw [plS_succ hk, h.is]; unfold plF; rw [if_pos hu], ⟨by simp, ?_, fun i h1 h2 => ?_⟩, ?_, ?_, fun r hr => ?_, ?_⟩
  · rw [getD_app_left hp.pos]; exact hp.root
  · simp only [List.length_append, List.length_singleton] at h2
    rcases Nat.lt_or_ge i s.p.length with hi | hi
    · obtain ⟨j, e1, e2, e3⟩ := hp.chain i h1 hi
      exact ⟨j, by rw [getD_app_left hi]; exact e1, e2, e3.grow _⟩
    · obtain rfl : i = s.p.length := by omega
      exact ⟨t, by rw [getD_app_one]; exact ht1, ht2, ht3.grow _⟩
  · have := h.len; simp; omega
  · rw [List.length_append, List.length_singleton, hs, hN_up hd hk hu]
  · simp only [List.length_append, List.length_singleton] at hr
    rcases Nat.lt_or_ge r s.st.length with hl | hl
    · obtain ⟨v, e1, e2, e3⟩ := h.stk r hl
      refine ⟨v, by rw [List.getElem_append_left hl]; exact e1, by simp; omega, fun h1 => ?_⟩
      rw [getD_app_left e2, getD_app_left (by omega)]
      exact e3 h1
    · obtain rfl : r = s.st.length := by omega
      refine ⟨s.p.length, by rw [List.getElem_append_right (Nat.le_refl _)]; simp, by simp, fun h1 => ?_⟩
      rw [getD_app_one, getD_app_left (by omega)]
      have e : s.st.getD (s.st.length - 1) 0 = s.st.getLastD 0 := by
        rw [List.getLastD_eq_getLast?, List.getLast?_eq_getElem?]; rfl
      rw [e, ht1]
      exact ⟨rfl, by omega⟩
  · exact ⟨s.p.length, by simp, by simp, by simp; exact .here⟩
theorem PlInv.down {l : List UInt8} {k : Nat} {s : PlS} (h : PlInv l k s) (hd : DyckP l) (hk : k < l.length) (hu : ¬ l[k].toNat = 117) : PlInv l (k + 1) ⟨s.p, s.st.dropLast⟩ := by
  obtain ⟨t, ht1, ht2, ht3⟩ := h.top
  obtain ⟨hn0, hn1⟩ := hN_down hd hk hu
  have hs := h.ht
  refine ⟨by rw [plS_succ hk, h.is]; unfold plF; rw [if_neg hu], h.pl, by have := h.len; show s.p.length ≤ _; omega, by simp; omega, fun r hr => ?_, ?_⟩
  · simp only [List.length_dropLast] at hr
    obtain ⟨v, e1, e2, e3⟩ := h.stk r (by omega)
    refine ⟨v, by rw [List.getElem_dropLast]; exact e1, e2, fun h1 => ?_⟩
    have := e3 h1
    have e : s.st.dropLast.getD (r - 1) 0 = s.st.getD (r - 1) 0 := by
      rw [getD_of (by rw [List.length_dropLast]; omega), getD_of (by omega), List.getElem_dropLast]
    rw [e]; exact this
  · have hl : s.st.length - 1 < s.st.length := by omega
    obtain ⟨v, e1, e2, e3⟩ := h.stk (s.st.length - 1) hl
    have e4 := e3 (by omega)
    obtain ⟨u, f1, f2, _⟩ := h.stk (s.st.length - 1 - 1) (by omega)
    have e : s.st.getLastD 0 = (v : Int) := by
      rw [List.getLastD_eq_getLast?, List.getLast?_eq_getElem?, List.getElem?_eq_getElem hl, e1]; rfl
    rw [getD_of (by omega : s.st.length - 1 - 1 < s.st.length), f1] at e4
    have htv : t = v := by rw [e] at ht1; omega
    subst htv
    refine ⟨u, ?_, f2, ht3.parent e2 e4.1 (by omega)⟩
    show s.st.dropLast.getLastD 0 = _
    rw [List.getLastD_eq_getLast?, List.getLast?_eq_getElem?, List.length_dropLast, List.getElem?_eq_getElem (by rw [List.length_dropLast]; omega), List.getElem_dropLast, f1]; rfl
/-- the stack's end, ready to be taken off -/
theorem PlInv.pop {l : List UInt8} {k : Nat} {s : PlS} (h : PlInv l k s) (hd : DyckP l) (hk : k < l.length) (hu : ¬ l[k].toNat = 117) :
    ∃ (ys : List Int) (v u : Nat), s.st = ys ++ [(v : Int)] ∧ 0 < ys.length ∧ v < s.p.length ∧ s.p.getD v 0 = (u : Int) ∧ ys.getLastD 0 = (u : Int) := by
  obtain ⟨hn0, hn1⟩ := hN_down hd hk hu
  have hs := h.ht
  have hl : s.st.length - 1 < s.st.length := by omega
  obtain ⟨v, e1, e2, e3⟩ := h.stk (s.st.length - 1) hl
  have e4 := (e3 (by omega)).1
  obtain ⟨u, f1, f2, _⟩ := h.stk (s.st.length - 1 - 1) (by omega)
  rw [getD_of (by omega : s.st.length - 1 - 1 < s.st.length), f1] at e4
  have hne : s.st ≠ [] := by intro e; rw [e] at hs; simp at hs
  refine ⟨s.st.dropLast, v, u, ?_, by simp; omega, e2, e4, ?_⟩
  · have := List.dropLast_concat_getLast hne
    rw [List.getLast_eq_getElem, e1] at this
    exact this.symm
  · rw [List.getLastD_eq_getLast?, List.getLast?_eq_getElem?, List.length_dropLast, List.getElem?_eq_getElem (by rw [List.length_dropLast]; omega), List.getElem_dropLast, f1]; rfl
/-- the plane of a word -/
def plV (l : List UInt8) : List Int × Bool := if DyckP l then ((plS l).p, true) else ([], false)
theorem PlInv.at_end {l : List UInt8} {s : PlS} (h : PlInv l l.length s) (hd : DyckP l) : plV l = (s.p, true) := by
  unfold plV
  have := h.is
  rw [List.take_length] at this
  rw [if_pos hd, this]
end Go.Proofs.Ytngfkajfbgfncaa
