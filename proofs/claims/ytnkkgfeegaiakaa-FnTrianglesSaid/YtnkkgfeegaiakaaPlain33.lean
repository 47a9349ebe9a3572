/- Plain words on triangulations: by counting its diagonals, each part of a triangulated polygon has a third corner; the triangles of the tree are all triples of corners that are joined. No condition. -/
import Derived.Test.YtnkkgfeegaiakaaTri
import Derived.Test.YtnkkgfeegaiakaaPlain27
namespace Go.Proofs.Ytnkkgfeegaiakaa
/-- the trees of parts of a polygon -/
inductive Tr where
  | lf : Tr
  | nd : Tr → Tr → Tr
def Tr.size : Tr → Nat
  | .lf => 0
  | .nd a b => a.size + b.size + 1
def Tr.isNd : Tr → Bool
  | .lf => false
  | .nd _ _ => true
/-- the triangles of a tree between two corners; its diagonals -/
def corn : Tr → Int → Int → List (List Int)
  | .lf, _, _ => []
  | .nd a b, l, r => [l, l + (a.size : Int) + 1, r] :: (corn a l (l + (a.size : Int) + 1) ++ corn b (l + (a.size : Int) + 1) r)
def e0 (x : List Int) : Int := x.getD 0 0
def e1 (x : List Int) : Int := x.getD 1 0
def isE (a b : Int) (x : List Int) : Bool := decide (e0 x = a) && decide (e1 x = b)
/-- next to each other, or the ends of a diagonal -/
def ed (d : List (List Int)) (a b : Int) : Bool := decide (b - a = 1) || d.any (isE a b)
structure TriF (n : Int) (d : List (List Int)) : Prop where
  diag : ∀ x ∈ d, 0 ≤ e0 x ∧ e1 x ≤ n - 1 ∧ e0 x + 2 ≤ e1 x ∧ ¬ (e0 x = 0 ∧ e1 x = n - 1)
  cross : ∀ x ∈ d, ∀ y ∈ d, ¬ (e0 x < e0 y ∧ e0 y < e1 x ∧ e1 x < e1 y)
  once : ∀ a b, d.countP (isE a b) ≤ 1
  len : (d.length : Int) = max 0 (n - 3)
/-- inside a part, but not its own side -/
def inn (l r : Int) (x : List Int) : Bool := decide (l ≤ e0 x) && (decide (e1 x ≤ r) && !(isE l r x))
def Fl (d : List (List Int)) (l r : Int) : Prop := r = l + 1 ∨ ((d.countP (inn l r) : Nat) : Int) + 2 = r - l
theorem countP_four {α : Type} {p q s t u : α → Bool} : ∀ (l : List α), (∀ x ∈ l, p x = true → q x = true ∨ s x = true ∨ t x = true ∨ u x = true) → l.countP p ≤ l.countP q + l.countP s + l.countP t + l.countP u := by
  intro l
  induction l with
  | nil => intro _; simp
  | cons x l ih =>
    intro h
    have h1 := ih fun y hy => h y (List.mem_cons_of_mem _ hy)
    have h2 := h x List.mem_cons_self
    simp only [List.countP_cons]
    by_cases hp : p x = true
    · rcases h2 hp with h | h | h | h <;> (rw [if_pos hp, if_pos h]; split <;> split <;> split <;> omega)
    · rw [if_neg hp]; split <;> split <;> split <;> split <;> omega
theorem ltge (a b : Int) : a < b ∨ b ≤ a := by omega
theorem max_exists (P : Int → Prop) : ∀ (k : Nat) (l r : Int), (r - l - 2).toNat = k → l + 2 ≤ r → P (l + 1) → ∃ m, l < m ∧ m < r ∧ P m ∧ ∀ m', m < m' → m' < r → ¬ P m' := by
  intro k
  induction k with
  | zero => intro l r hk hr hp; exact ⟨l + 1, by omega, by omega, hp, fun m' h1 h2 => by omega⟩
  | succ k ih =>
    intro l r hk hr hp
    rcases Classical.em (P (r - 1)) with h | h
    · exact ⟨r - 1, by omega, by omega, h, fun m' h1 h2 => by omega⟩
    · obtain ⟨m, h1, h2, h3, h4⟩ := ih l (r - 1) (by omega) (by omega) hp
      refine ⟨m, h1, by omega, h3, fun m' h5 h6 => ?_⟩
      rcases ltge m' (r - 1) with h7 | h7
      · exact h4 m' h5 h7
      · rw [show m' = r - 1 by omega]; exact h
section
variable {n : Int} {d : List (List Int)}
theorem isE_iff {a b : Int} {x : List Int} : isE a b x = true ↔ e0 x = a ∧ e1 x = b := by simp [isE]
theorem inn_iff {a b : Int} {x : List Int} : inn a b x = true ↔ a ≤ e0 x ∧ e1 x ≤ b ∧ ¬ (e0 x = a ∧ e1 x = b) := by
  unfold inn isE
  simp only [Bool.and_eq_true, decide_eq_true_eq, Bool.not_eq_true', Bool.and_eq_false_iff, decide_eq_false_iff_not]
  omega
theorem ed_iff {a b : Int} : ed d a b = true ↔ b = a + 1 ∨ ∃ x ∈ d, e0 x = a ∧ e1 x = b := by
  unfold ed
  simp only [Bool.or_eq_true, decide_eq_true_eq, List.any_eq_true, isE_iff]
  constructor
  · rintro (h | h)
    · exact .inl (by omega)
    · exact .inr h
  · rintro (h | h)
    · exact .inl (by omega)
    · exact .inr h
/-- how many diagonals lie within a part; where they are as many as can be, there is a third corner -/
theorem inn_le (h : TriF n d) : ∀ (k : Nat) (l r : Int), (r - l).toNat ≤ k → 0 ≤ l → l + 1 ≤ r → r ≤ n - 1 →
    (r = l + 1 → d.countP (inn l r) = 0) ∧ (l + 2 ≤ r → ((d.countP (inn l r) : Nat) : Int) + 2 ≤ r - l ∧ (((d.countP (inn l r) : Nat) : Int) + 2 = r - l → ∃ m, l < m ∧ m < r ∧ ed d l m = true ∧ ed d m r = true ∧ Fl d l m ∧ Fl d m r)) := by
  intro k
  induction k with
  | zero => intro l r hk h0 h1 h2; omega
  | succ k ih =>
    intro l r hk h0 h1 h2
    refine ⟨fun e => ?_, fun hlr => ?_⟩
    · rw [List.countP_eq_zero]
      intro x hx hi
      have := h.diag x hx
      have := inn_iff.1 hi
      omega
    · obtain ⟨m, m1, m2, m3, m4⟩ := max_exists (fun m => m = l + 1 ∨ ∃ x ∈ d, e0 x = l ∧ e1 x = m) _ l r rfl hlr (.inl rfl)
      have M3 := Lib.hid m3
      clear m3
      have hsplit : ∀ x ∈ d, inn l r x = true → inn l m x = true ∨ isE l m x = true ∨ inn m r x = true ∨ isE m r x = true := by
        intro x hx hi
        have hi := inn_iff.1 hi
        have hdg := h.diag x hx
        rw [inn_iff, inn_iff, isE_iff, isE_iff]
        by_cases hb : e1 x ≤ m
        · by_cases he : e0 x = l ∧ e1 x = m
          · exact .inr (.inl he)
          · exact .inl ⟨hi.1, hb, he⟩
        · by_cases ha : m ≤ e0 x
          · by_cases he : e0 x = m ∧ e1 x = r
            · exact .inr (.inr (.inr he))
            · exact .inr (.inr (.inl ⟨ha, hi.2.1, he⟩))
          · exfalso
            by_cases hl : e0 x = l
            · exact m4 (e1 x) (by omega) (by omega) (.inr ⟨x, hx, hl, rfl⟩)
            · rcases M3.out with m3 | ⟨y, hy, y0, y1⟩
              · omega
              · exact h.cross y hy x hx ⟨by omega, by omega, by omega⟩
      have hc := countP_four d hsplit
      have hL := ih l m (by omega) h0 (by omega) (by omega)
      have hR := ih m r (by omega) (by omega) (by omega) h2
      have oL := h.once l m
      have oR := h.once m r
      have zL : m = l + 1 → d.countP (isE l m) = 0 := fun e => by
        rw [List.countP_eq_zero]
        intro x hx hi
        have := h.diag x hx
        have := isE_iff.1 hi
        omega
      have zR : ¬ ed d m r = true → d.countP (isE m r) = 0 := fun e => by
        rw [List.countP_eq_zero]
        intro x hx hi
        exact e (ed_iff.2 (.inr ⟨x, hx, isE_iff.1 hi⟩))
      have zR1 : r = m + 1 → d.countP (isE m r) = 0 := fun e => by
        rw [List.countP_eq_zero]
        intro x hx hi
        have := h.diag x hx
        have := isE_iff.1 hi
        omega
      have bL : ((d.countP (inn l m) : Nat) : Int) + ((d.countP (isE l m) : Nat) : Int) ≤ m - l - 1 := by
        rcases ltge m (l + 2) with q | q
        · have e : m = l + 1 := by omega
          have := hL.1 e
          have := zL e
          omega
        · have := (hL.2 q).1
          omega
      have bR : ((d.countP (inn m r) : Nat) : Int) + ((d.countP (isE m r) : Nat) : Int) ≤ r - m - 1 := by
        rcases ltge r (m + 2) with q | q
        · have e : r = m + 1 := by omega
          have := hR.1 e
          have := zR1 e
          omega
        · have := (hR.2 q).1
          omega
      refine ⟨by omega, fun heq => ⟨m, m1, m2, ed_iff.2 M3.out, ?_, ?_, ?_⟩⟩
      · rcases Classical.em (ed d m r = true) with q | q
        · exact q
        · exfalso
          have z := zR q
          have hne : ¬ r = m + 1 := fun e => q (ed_iff.2 (.inl e))
          have := (hR.2 (by omega)).1
          omega
      · unfold Fl
        rcases ltge m (l + 2) with q | q
        · exact .inl (by omega)
        · right
          have := (hL.2 q).1
          omega
      · unfold Fl
        rcases ltge r (m + 2) with q | q
        · exact .inl (by omega)
        · right
          have := (hR.2 q).1
          omega
theorem Fl.apex (h : TriF n d) {l r : Int} (hf : Fl d l r) (h0 : 0 ≤ l) (h1 : l + 2 ≤ r) (h2 : r ≤ n - 1) : ∃ m, l < m ∧ m < r ∧ ed d l m = true ∧ ed d m r = true ∧ Fl d l m ∧ Fl d m r := by
  rcases hf with e | e
  · omega
  · exact ((inn_le h _ l r (Nat.le_refl _) h0 (by omega) h2).2 h1).2 e
theorem Fl.whole (h : TriF n d) (hn : 2 ≤ n) : Fl d 0 (n - 1) := by
  unfold Fl
  rcases ltge n 3 with q | q
  · exact .inl (by omega)
  · right
    have e : d.countP (inn 0 (n - 1)) = d.length := List.countP_eq_length.2 fun x hx => by
      have := h.diag x hx
      exact inn_iff.2 ⟨this.1, this.2.1, this.2.2.2⟩
    rw [e, h.len]
    omega
/-- joined: next to each other, by a diagonal, or by the outer side -/
def JJ (n : Int) (d : List (List Int)) (a b : Int) : Prop := ed d a b = true ∨ (a = 0 ∧ b = n - 1)
theorem JJ.diag {a b : Int} (h : JJ n d a b) (ha : a + 2 ≤ b) (hn : ¬ (a = 0 ∧ b = n - 1)) : ∃ x ∈ d, e0 x = a ∧ e1 x = b := by
  rcases h with h | h
  · rcases ed_iff.1 h with h | h
    · omega
    · exact h
  · exact absurd h hn
theorem no_cross (h : TriF n d) {a b c f : Int} (h1 : JJ n d a b) (h2 : JJ n d c f) (ha : 0 ≤ a) (hf : f ≤ n - 1) (q1 : a < c) (q2 : c < b) (q3 : b < f) : False := by
  obtain ⟨x, hx, x0, x1⟩ := h1.diag (by omega) (by omega)
  obtain ⟨y, hy, y0, y1⟩ := h2.diag (by omega) (by omega)
  exact h.cross x hx y hy ⟨by omega, by omega, by omega⟩
/-- the first third corner, and the tree -/
def apx (d : List (List Int)) (l r : Int) : Option Int := ((List.range (r - l - 1).toNat).map fun (i : Nat) => l + 1 + (i : Int)).find? fun m => ed d l m && ed d m r
def tOf (d : List (List Int)) : Nat → Int → Int → Tr
  | 0, _, _ => .lf
  | f + 1, l, r => match apx d l r with
    | none => .lf
    | some m => .nd (tOf d f l m) (tOf d f m r)
theorem apx_some {l r m : Int} (h : apx d l r = some m) : l < m ∧ m < r ∧ ed d l m = true ∧ ed d m r = true := by
  have h1 := List.find?_some h
  have h2 := List.mem_of_find?_eq_some h
  obtain ⟨i, hi, rfl⟩ := List.mem_map.1 h2
  have := List.mem_range.1 hi
  rw [Bool.and_eq_true] at h1
  exact ⟨by omega, by omega, h1.1, h1.2⟩
theorem apx_none {l r : Int} (h : apx d l r = none) : ∀ m, l < m → m < r → ¬ (ed d l m = true ∧ ed d m r = true) := by
  intro m h1 h2 h3
  have := List.find?_eq_none.1 h m (List.mem_map.2 ⟨(m - l - 1).toNat, List.mem_range.2 (by omega), by omega⟩)
  rw [Bool.and_eq_true] at this
  exact this h3
def TriIn (n : Int) (d : List (List Int)) (l r : Int) (x : List Int) : Prop := ∃ a b c, x = [a, b, c] ∧ l ≤ a ∧ a < b ∧ b < c ∧ c ≤ r ∧ JJ n d a b ∧ JJ n d b c ∧ JJ n d a c
theorem tOf_facts (h : TriF n d) : ∀ (f : Nat) (l r : Int), (r - l).toNat ≤ f → 0 ≤ l → l + 1 ≤ r → r ≤ n - 1 → Fl d l r → JJ n d l r →
    ((tOf d f l r).size : Int) = r - l - 1 ∧ (∀ x, x ∈ corn (tOf d f l r) l r ↔ TriIn n d l r x) ∧ (corn (tOf d f l r) l r).Nodup := by
  intro f
  induction f with
  | zero => intro l r hf h0 h1; omega
  | succ f ih =>
    intro l r hf h0 h1 h2 hF hJ
    rcases ltge r (l + 2) with hs | hs
    · have e : apx d l r = none := by
        unfold apx
        rw [show (r - l - 1).toNat = 0 by omega]
        rfl
      unfold tOf
      rw [e]
      refine ⟨by show ((0 : Nat) : Int) = _; omega, fun x => ⟨fun hx => (by cases hx), ?_⟩, List.nodup_nil⟩
      rintro ⟨a, b, c, _, q1, q2, q3, q4, _⟩
      omega
    · obtain ⟨m0, m1, m2, m3, m4, m5, m6⟩ := hF.apex h h0 hs h2
      cases e : apx d l r with
      | none => exact absurd ⟨m3, m4⟩ (apx_none e m0 m1 m2)
      | some m =>
        obtain ⟨k1, k2, k3, k4⟩ := apx_some e
        have hmm : m = m0 := by
          rcases Int.lt_trichotomy m m0 with q | q | q
          · exact (no_cross h (a := l) (b := m0) (c := m) (f := r) (.inl m3) (.inl k4) h0 h2 k1 q m2).elim
          · exact q
          · exact (no_cross h (a := l) (b := m) (c := m0) (f := r) (.inl k3) (.inl m4) h0 h2 m1 q k2).elim
        subst hmm
        unfold tOf
        rw [e]
        obtain ⟨a1, a2, a3⟩ := ih l m (by omega) h0 (by omega) (by omega) m5 (.inl k3)
        obtain ⟨b1, b2, b3⟩ := ih m r (by omega) (by omega) (by omega) h2 m6 (.inl k4)
        have em : l + ((tOf d f l m).size : Int) + 1 = m := by omega
        refine ⟨?_, fun x => ?_, ?_⟩
        · show (((tOf d f l m).size + (tOf d f m r).size + 1 : Nat) : Int) = _
          omega
        · show x ∈ _ :: (corn _ l _ ++ corn _ _ r) ↔ _
          rw [em, List.mem_cons, List.mem_append, a2, b2]
          constructor
          · rintro (rfl | ⟨a, b, c, rfl, q1, q2, q3, q4, q5⟩ | ⟨a, b, c, rfl, q1, q2, q3, q4, q5⟩)
            · exact ⟨l, m, r, rfl, by omega, by omega, by omega, by omega, .inl k3, .inl k4, hJ⟩
            · exact ⟨a, b, c, rfl, q1, q2, q3, by omega, q5⟩
            · exact ⟨a, b, c, rfl, by omega, q2, q3, q4, q5⟩
          · rintro ⟨a, b, c, rfl, q1, q2, q3, q4, j1, j2, j3⟩
            by_cases hc : c ≤ m
            · exact .inr (.inl ⟨a, b, c, rfl, q1, q2, q3, hc, j1, j2, j3⟩)
            · by_cases ha : m ≤ a
              · exact .inr (.inr ⟨a, b, c, rfl, ha, q2, q3, q4, j1, j2, j3⟩)
              · left
                have hal : a = l := by
                  rcases ltge l a with q | q
                  · exact (no_cross h (.inl k3) j3 h0 (by omega) q (by omega) (by omega)).elim
                  · omega
                have hcr : c = r := by
                  rcases ltge c r with q | q
                  · exact (no_cross h j3 (.inl k4) (by omega) h2 (by omega) (by omega) q).elim
                  · omega
                subst hal; subst hcr
                have hbm : b = m := by
                  rcases Int.lt_trichotomy b m with q | q | q
                  · exact (no_cross h (.inl k3) j2 h0 h2 q2 q k2).elim
                  · exact q
                  · exact (no_cross h j1 (.inl k4) h0 h2 k1 q q3).elim
                rw [hbm]
        · show (_ :: (corn _ l _ ++ corn _ _ r)).Nodup
          rw [em]
          refine List.nodup_cons.2 ⟨fun hx => ?_, List.nodup_append.2 ⟨a3, b3, fun x hx y hy hxy => ?_⟩⟩
          · rw [List.mem_append, a2, b2] at hx
            rcases hx with ⟨a, b, c, hx, q1, q2, q3, q4, _⟩ | ⟨a, b, c, hx, q1, q2, q3, q4, _⟩
            · injection hx with x1 hx; injection hx with x2 hx; injection hx with x3 _; omega
            · injection hx with x1 hx; injection hx with x2 hx; injection hx with x3 _; omega
          · subst hxy
            obtain ⟨a, b, c, hx, q1, q2, q3, q4, _⟩ := (a2 x).1 hx
            obtain ⟨a', b', c', hy, r1, r2, r3, r4, _⟩ := (b2 x).1 hy
            rw [hx] at hy
            injection hy with x1 hy; injection hy with x2 hy; injection hy with x3 _; omega
end
theorem TriP.f {n : Int} {d : List (List Int)} (h : TriP n d) : TriF n d := by
  obtain ⟨hn, hl, ht⟩ := h
  have hrow : ∀ x ∈ d, ∃ i, i < d.length ∧ rowOf d i = x := fun x hx => by
    obtain ⟨i, hi, e⟩ := List.getElem_of_mem hx
    exact ⟨i, hi, by rw [rowOf_get hi, e]⟩
  have hasc : ∀ j i, i < j → j < d.length → cmpL (rowOf d i) (rowOf d j) < 0 := by
    intro j
    induction j with
    | zero => intro i hi; omega
    | succ j ih =>
      intro i hi hj
      have h1 := (ht (j + 1) hj).2.1 (by omega)
      rw [Nat.add_sub_cancel] at h1
      rcases Nat.lt_or_ge i j with q | q
      · exact cmpL_tr _ _ _ (ih i q (by omega)) h1
      · rw [show i = j by omega]; exact h1
  have hdg : ∀ x ∈ d, ∃ a b, x = [a, b] ∧ (0 ≤ a ∧ a ≤ n - 1) ∧ (0 ≤ b ∧ b ≤ n - 1) ∧ 2 ≤ b - a ∧ ¬ (a = 0 ∧ b = n - 1) := fun x hx => by
    obtain ⟨i, hi, e⟩ := hrow x hx
    have := diag_two (ht i hi).1
    rw [e] at this
    exact this
  refine ⟨fun x hx => ?_, fun x hx y hy => ?_, fun a b => ?_, hl⟩
  · obtain ⟨a, b, rfl, q1, q2, q3, q4⟩ := hdg x hx
    show 0 ≤ a ∧ b ≤ n - 1 ∧ a + 2 ≤ b ∧ ¬ (a = 0 ∧ b = n - 1)
    omega
  · rintro ⟨q1, q2, q3⟩
    obtain ⟨i, hi, ei⟩ := hrow x hx
    obtain ⟨j, hj, ej⟩ := hrow y hy
    have hcr : ∀ u v, e0 u < e0 v ∧ e0 v < e1 u ∧ e1 u < e1 v → crB u v = true ∧ crB v u = true := fun u v ⟨a, b, c⟩ => by
      unfold crB crN
      unfold e0 e1 at *
      simp only [decide_eq_true a, decide_eq_true b, decide_eq_true c, Bool.and_self, Bool.true_or, Bool.or_true, and_self]
    obtain ⟨c1, c2⟩ := hcr x y ⟨q1, q2, q3⟩
    rcases Nat.lt_trichotomy i j with q | q | q
    · have := (ht j hj).2.2 i q
      rw [ei, ej, c1] at this; cases this
    · subst q
      rw [ei] at ej
      rw [ej] at q1; omega
    · have := (ht i hi).2.2 j q
      rw [ei, ej, c2] at this; cases this
  · have hnd : ∀ (l : List (List Int)), (l.Pairwise fun x y => x ≠ y) → (∀ x ∈ l, x ∈ d) → l.countP (isE a b) ≤ 1 := by
      intro l
      induction l with
      | nil => intro _ _; simp
      | cons x l ih =>
        intro hp hm
        obtain ⟨p1, p2⟩ := List.pairwise_cons.1 hp
        rw [List.countP_cons]
        by_cases hx : isE a b x = true
        · rw [if_pos hx]
          have : l.countP (isE a b) = 0 := by
            rw [List.countP_eq_zero]
            intro y hy hi
            obtain ⟨u, v, hu, _⟩ := hdg x (hm x List.mem_cons_self)
            obtain ⟨u', v', hu', _⟩ := hdg y (hm y (List.mem_cons_of_mem _ hy))
            have i1 := isE_iff.1 hx
            have i2 := isE_iff.1 hi
            subst hu; subst hu'
            have j1 : u = a ∧ v = b := i1
            have j2 : u' = a ∧ v' = b := i2
            exact p1 _ hy (by rw [j1.1, j1.2, j2.1, j2.2])
          omega
        · rw [if_neg hx]
          exact ih p2 fun y hy => hm y (List.mem_cons_of_mem _ hy)
    refine hnd d (List.pairwise_iff_getElem.2 fun i j hi hj hij e => ?_) (fun x hx => hx)
    have := hasc j i hij hj
    rw [rowOf_get hi, rowOf_get hj, e, cmpL_self] at this
    omega
/-- two ascending lists with the same members are one -/
theorem ascG_eq {α : Type} {lt : α → α → Bool} (ht : TotalLt lt) : ∀ (x y : List α), (x.Pairwise fun a b => lt a b = true) → (y.Pairwise fun a b => lt a b = true) → (∀ z, z ∈ x ↔ z ∈ y) → x = y := by
  intro x
  induction x with
  | nil =>
    intro y _ _ h
    cases y with
    | nil => rfl
    | cons b y => exact absurd ((h b).2 (by simp)) (by simp)
  | cons a x ih =>
    intro y hx hy h
    cases y with
    | nil => exact absurd ((h a).1 (by simp)) (by simp)
    | cons b y =>
      obtain ⟨hx1, hx2⟩ := List.pairwise_cons.1 hx
      obtain ⟨hy1, hy2⟩ := List.pairwise_cons.1 hy
      have irr : ∀ u, ¬ lt u u = true := fun u => by rw [ht.irr u]; simp
      have e : a = b := by
        rcases List.mem_cons.1 ((h a).1 (by simp)) with h1 | h1
        · exact h1
        · rcases List.mem_cons.1 ((h b).2 (by simp)) with h2 | h2
          · exact h2.symm
          · exact absurd (ht.tr _ _ _ (hy1 a h1) (hx1 b h2)) (irr b)
      subst e
      rw [ih y hx2 hy2 fun z => ?_]
      constructor
      · intro hz
        rcases List.mem_cons.1 ((h z).1 (List.mem_cons_of_mem _ hz)) with e | hz'
        · subst e; exact absurd (hx1 z hz) (irr z)
        · exact hz'
      · intro hz
        rcases List.mem_cons.1 ((h z).2 (List.mem_cons_of_mem _ hz)) with e | hz'
        · subst e; exact absurd (hy1 z hz) (irr z)
        · exact hz'
/-- the reference's triples: whether two corners are joined; the triples in order -/
def sdB (n : Int) (d : List (List Int)) (a b : Int) : Bool := (decide (b = a + 1) || (decide (a = 0) && decide (b = n - 1))) || d.any (isE a b)
def trC (n : Int) (d : List (List Int)) (a b : Int) (k : Nat) : List (List Int) := (List.range k).flatMap fun (i : Nat) => if sdB n d a b && (sdB n d b (b + 1 + i) && sdB n d a (b + 1 + i)) then [[a, b, b + 1 + (i : Int)]] else []
def trB (n : Int) (d : List (List Int)) (a : Int) (k : Nat) : List (List Int) := (List.range k).flatMap fun (i : Nat) => trC n d a (a + 1 + i) (n - (a + 1 + i) - 1).toNat
def trA (n : Int) (d : List (List Int)) (k : Nat) : List (List Int) := (List.range k).flatMap fun (i : Nat) => trB n d (i : Int) (n - i - 1).toNat
theorem sdB_iff {n : Int} {d : List (List Int)} {a b : Int} : sdB n d a b = true ↔ JJ n d a b := by
  unfold sdB JJ ed
  simp only [Bool.or_eq_true, decide_eq_true_eq, Bool.and_eq_true]
  constructor
  · rintro ((h | h) | h)
    · exact .inl (.inl (by omega))
    · exact .inr h
    · exact .inl (.inr h)
  · rintro ((h | h) | h)
    · exact .inl (.inl (by omega))
    · exact .inr h
    · exact .inl (.inr h)
theorem trA_mem {n : Int} {d : List (List Int)} (hn : 0 ≤ n) (x : List Int) : x ∈ trA n d n.toNat ↔ TriIn n d 0 (n - 1) x := by
  unfold trA trB trC
  simp only [List.mem_flatMap, List.mem_range]
  constructor
  · rintro ⟨i, hi, j, hj, k, hk, hx⟩
    split at hx
    · rename_i hs
      rw [List.mem_singleton] at hx
      rw [Bool.and_eq_true, Bool.and_eq_true, sdB_iff, sdB_iff, sdB_iff] at hs
      exact ⟨_, _, _, hx, by omega, by omega, by omega, by omega, hs.1, hs.2.1, hs.2.2⟩
    · cases hx
  · rintro ⟨a, b, c, rfl, q1, q2, q3, q4, j1, j2, j3⟩
    have ea : ((a.toNat : Nat) : Int) = a := by omega
    have eb : a + 1 + (((b - a - 1).toNat : Nat) : Int) = b := by omega
    have ec : b + 1 + (((c - b - 1).toNat : Nat) : Int) = c := by omega
    refine ⟨a.toNat, by omega, (b - a - 1).toNat, by omega, (c - b - 1).toNat, by omega, ?_⟩
    rw [ea, eb, ec, if_pos]
    · simp
    · rw [Bool.and_eq_true, Bool.and_eq_true, sdB_iff, sdB_iff, sdB_iff]; exact ⟨j1, j2, j3⟩
theorem lt3 (a b c a' b' c' : Int) : decide (cmpL [a, b, c] [a', b', c'] < 0) = true ↔ a < a' ∨ (a = a' ∧ (b < b' ∨ (b = b' ∧ c < c'))) := by
  rw [decide_eq_true_eq, cmpL_cons, cmpL_cons, cmpL_cons]
  unfold cmpV
  by_cases h1 : a = a'
  · by_cases h2 : b = b'
    · by_cases h3 : c = c'
      · simp [h1, h2, h3, cmpL]
      · rw [if_pos h1, if_pos h2, if_neg h3]; split <;> (try split) <;> omega
    · rw [if_pos h1, if_neg h2]; split <;> (try split) <;> omega
  · rw [if_neg h1]; split <;> (try split) <;> omega
theorem flat_asc {f : Nat → List (List Int)} (hf : ∀ i, (f i).Pairwise fun x y => decide (cmpL x y < 0) = true) (hb : ∀ i j, i < j → ∀ x ∈ f i, ∀ y ∈ f j, decide (cmpL x y < 0) = true) : ∀ k, ((List.range k).flatMap f).Pairwise fun x y => decide (cmpL x y < 0) = true := by
  intro k
  induction k with
  | zero => simp
  | succ k ih =>
    rw [List.range_succ, List.flatMap_append, List.flatMap_cons, List.flatMap_nil, List.append_nil]
    refine List.pairwise_append.2 ⟨ih, hf k, fun x hx y hy => ?_⟩
    obtain ⟨i, hi, hx⟩ := List.mem_flatMap.1 hx
    exact hb i k (List.mem_range.1 hi) x hx y hy
theorem trA_asc (n : Int) (d : List (List Int)) (k : Nat) : (trA n d k).Pairwise fun x y => decide (cmpL x y < 0) = true := by
  have memC : ∀ {a b : Int} {k : Nat} {x}, x ∈ trC n d a b k → ∃ c, x = [a, b, c] := fun {a b k x} hx => by
    obtain ⟨i, _, hx⟩ := List.mem_flatMap.1 hx
    split at hx
    · exact ⟨_, List.mem_singleton.1 hx⟩
    · cases hx
  have memB : ∀ {a : Int} {k : Nat} {x}, x ∈ trB n d a k → ∃ b c, x = [a, b, c] := fun {a k x} hx => by
    obtain ⟨i, _, hx⟩ := List.mem_flatMap.1 hx
    obtain ⟨c, hc⟩ := memC hx
    exact ⟨_, c, hc⟩
  refine flat_asc (fun i => flat_asc (fun j => flat_asc (fun k => by split <;> simp) (fun i j hij x hx y hy => ?_) _) (fun i j hij x hx y hy => ?_) _) (fun i j hij x hx y hy => ?_) k
  · split at hx
    · split at hy
      · rw [List.mem_singleton.1 hx, List.mem_singleton.1 hy, lt3]; omega
      · cases hy
    · cases hx
  · obtain ⟨c, rfl⟩ := memC hx
    obtain ⟨c', rfl⟩ := memC hy
    rw [lt3]; omega
  · obtain ⟨b, c, rfl⟩ := memB hx
    obtain ⟨b', c', rfl⟩ := memB hy
    rw [lt3]; omega
/-- the sorted triangles of the tree are the reference's triples -/
theorem triples_eq {n : Int} {d : List (List Int)} (h : TriP n d) (f : Nat) (hf : (n - 1).toNat ≤ f) : putsG [] (fun a b => decide (cmpL a b < 0)) (corn (tOf d f 0 (n - 1)) 0 (n - 1)) = trA n d n.toNat := by
  have hn := h.1
  obtain ⟨_, h2, h3⟩ := tOf_facts h.f f 0 (n - 1) (by omega) (by omega) (by omega) (by omega) (Fl.whole h.f (by omega)) (.inr ⟨rfl, rfl⟩)
  refine ascG_eq ltL_total _ _ (putsG_sorted [] ltL_total _ h3) (trA_asc n d _) fun z => ?_
  rw [(putsG_perm _ _ _).mem_iff, h2, trA_mem (by omega)]
end Go.Proofs.Ytnkkgfeegaiakaa
