/- Plain words of trees as texts: the reader and the writer. No condition but what each lemma says. -/
import Derived.Test.YtnkkgfeegaiakaaPlain33
namespace Go.Proofs.Ytnkkgfeegaiakaa
def txT : Tr → List UInt8
  | .lf => [46]
  | .nd a b => 40 :: (txT a ++ (txT b ++ [41]))
theorem txT_len : ∀ T : Tr, (txT T).length = 3 * T.size + 1
  | .lf => rfl
  | .nd a b => by
    have ha := txT_len a
    have hb := txT_len b
    simp only [txT, List.length_cons, List.length_append, List.length_nil, Tr.size]
    omega
def rdT : Nat → List UInt8 → Option (Tr × List UInt8)
  | 0, _ => none
  | _ + 1, [] => none
  | f + 1, c :: l =>
    if c = 46 then some (.lf, l)
    else if c = 40 then
      match rdT f l with
      | none => none
      | some (a, r) =>
        match rdT f r with
        | none => none
        | some (b, q) => if q.head? = some 41 then some (.nd a b, q.tail) else none
    else none
theorem rdT_text : ∀ (T : Tr) (f : Nat) (r : List UInt8), (txT T).length ≤ f → rdT f (txT T ++ r) = some (T, r)
  | .lf, f + 1, r, _ => by simp [rdT, txT]
  | .lf, 0, r, h => by simp [txT] at h
  | .nd a b, 0, r, h => by simp [txT] at h
  | .nd a b, f + 1, r, h => by
    have hl : (txT a).length ≤ f ∧ (txT b).length ≤ f := by
      simp only [txT, List.length_cons, List.length_append, List.length_nil] at h
      omega
    have ha := rdT_text a f (txT b ++ ([41] ++ r)) hl.1
    have hb := rdT_text b f ([41] ++ r) hl.2
    have e : txT (.nd a b) ++ r = 40 :: (txT a ++ (txT b ++ ([41] ++ r))) := by simp [txT]
    rw [e]
    simp only [rdT, ha, hb]
    simp
theorem rdT_back : ∀ (f : Nat) (l : List UInt8) (T : Tr) (r : List UInt8), rdT f l = some (T, r) → l = txT T ++ r
  | 0, l, T, r, h => by simp [rdT] at h
  | f + 1, [], T, r, h => by simp [rdT] at h
  | f + 1, c :: l, T, r, h => by
    unfold rdT at h
    by_cases h1 : c = 46
    · rw [if_pos h1] at h
      cases h
      rw [h1]; rfl
    · rw [if_neg h1] at h
      by_cases h2 : c = 40
      · rw [if_pos h2] at h
        rcases ea : rdT f l with _ | ⟨a, ra⟩
        · rw [ea] at h; cases h
        · rw [ea] at h
          have ha := rdT_back f l a ra ea
          rcases eb : rdT f ra with _ | ⟨b, q⟩
          · simp only [eb] at h; cases h
          · simp only [eb] at h
            have hb := rdT_back f ra b q eb
            by_cases h3 : q.head? = some 41
            · rw [if_pos h3] at h
              cases h
              rcases q with _ | ⟨x, q⟩
              · cases h3
              · cases h3
                rw [h2, ha, hb]; simp [txT]
            · rw [if_neg h3] at h; cases h
      · rw [if_neg h2] at h; cases h
theorem suffix_drop {l a r : List UInt8} {i : Nat} (h : l.drop i = a ++ r) (hi : i ≤ l.length) : r = l.drop (l.length - r.length) ∧ l.length - r.length = i + a.length := by
  have h1 := congrArg List.length h
  rw [List.length_drop, List.length_append] at h1
  have h2 : l.length - r.length = i + a.length := by omega
  refine ⟨?_, h2⟩
  rw [h2, ← List.drop_drop, h, List.drop_left]
/-- the tree at a place, and the place behind it -/
def rdAt (f : Nat) (l : List UInt8) (i : Nat) : Option (Tr × Nat) := (rdT f (l.drop i)).map fun p => (p.1, l.length - p.2.length)
theorem rdAt_end {f : Nat} {l : List UInt8} {i : Nat} (h : l.length ≤ i) : rdAt f l i = none := by
  unfold rdAt
  rw [List.drop_eq_nil_of_le h]
  cases f <;> rfl
theorem rdAt_dot {f : Nat} {l : List UInt8} {i : Nat} (h : i < l.length) (hc : l[i] = 46) : rdAt (f + 1) l i = some (.lf, i + 1) := by
  unfold rdAt
  rw [List.drop_eq_getElem_cons h, rdT, if_pos hc]
  simp only [Option.map_some, List.length_drop, Option.some.injEq, Prod.mk.injEq, true_and]
  omega
theorem rdAt_other {f : Nat} {l : List UInt8} {i : Nat} (h : i < l.length) (h1 : l[i] ≠ 46) (h2 : l[i] ≠ 40) : rdAt (f + 1) l i = none := by
  unfold rdAt
  rw [List.drop_eq_getElem_cons h, rdT, if_neg h1, if_neg h2]; rfl
theorem rdAt_open {f : Nat} {l : List UInt8} {i : Nat} (h : i < l.length) (hc : l[i] = 40) :
    rdAt (f + 1) l i = (match rdAt f l (i + 1) with
      | none => none
      | some (a, x) => match rdAt f l x with
        | none => none
        | some (b, y) => if l[y]? = some 41 then some (.nd a b, y + 1) else none) := by
  unfold rdAt
  rw [List.drop_eq_getElem_cons h, rdT, if_neg (by rw [hc]; decide), if_pos hc]
  rcases ea : rdT f (l.drop (i + 1)) with _ | ⟨a, r⟩
  · rfl
  · obtain ⟨e1, _⟩ := suffix_drop (rdT_back _ _ _ _ ea) (by omega)
    simp only [Option.map_some]
    rw [← e1]
    rcases eb : rdT f r with _ | ⟨b, q⟩
    · rfl
    · have hb := rdT_back _ _ _ _ eb
      rw [e1] at hb
      obtain ⟨e2, _⟩ := suffix_drop hb (by omega)
      simp only [Option.map_some]
      have e3 : l[l.length - q.length]? = q.head? := by
        rw [e2, List.head?_drop, ← e2]
      rw [e3]
      by_cases h3 : q.head? = some 41
      · rw [if_pos h3, if_pos h3]
        rcases q with _ | ⟨x, q⟩
        · cases h3
        · have := congrArg List.length hb
          simp only [List.length_drop, List.length_append, List.length_cons] at this
          simp only [Option.map_some, List.tail_cons, List.length_cons, Option.some.injEq, Prod.mk.injEq, true_and]
          omega
      · rw [if_neg h3, if_neg h3]; rfl
theorem rdAt_le {f : Nat} {l : List UInt8} {i : Nat} {T : Tr} {j : Nat} (h : rdAt f l i = some (T, j)) : i < j ∧ j ≤ l.length ∧ j = i + (txT T).length := by
  unfold rdAt at h
  rcases e : rdT f (l.drop i) with _ | ⟨a, r⟩
  · rw [e] at h; cases h
  · rw [e] at h
    cases h
    have hb := rdT_back _ _ _ _ e
    have := congrArg List.length hb
    rw [List.length_drop, List.length_append] at this
    have := txT_len a
    show i < l.length - r.length ∧ l.length - r.length ≤ l.length ∧ l.length - r.length = i + (txT a).length
    omega
end Go.Proofs.Ytnkkgfeegaiakaa
