/- Plain words on renumbering: the first places of values, the names in order of their first places. No condition. -/
import Derived.Test.YtnkkgfeegaiakaaGround
namespace Go.Proofs.Ytnkkgfeegaiakaa
/-- the first place of x in l, or l's length -/
def ix : List Int → Int → Nat
  | [], _ => 0
  | a :: l, x => if a = x then 0 else ix l x + 1
theorem ix_le (l : List Int) (x : Int) : ix l x ≤ l.length := by
  induction l with
  | nil => simp [ix]
  | cons a l ih => simp only [ix]; split <;> simp <;> omega
theorem ix_lt {l : List Int} {x : Int} (h : x ∈ l) : ix l x < l.length := by
  induction l with
  | nil => cases h
  | cons a l ih =>
    simp only [ix]
    split
    · simp
    · rename_i hne
      have : x ∈ l := by
        rcases List.mem_cons.1 h with h | h
        · exact absurd h.symm hne
        · exact h
      have := ih this
      simp; omega
theorem ix_first {l : List Int} {x : Int} {j : Nat} (hj : j < l.length) (he : l[j] = x) (hn : ∀ i (h : i < j), l[i]'(by omega) ≠ x) : ix l x = j := by
  induction l generalizing j with
  | nil => simp at hj
  | cons a l ih =>
    cases j with
    | zero => simp only [List.getElem_cons_zero] at he; simp [ix, he]
    | succ j =>
      have h0 : a ≠ x := by simpa using hn 0 (by omega)
      simp only [ix]
      rw [if_neg h0, ih (j := j) (by simpa using hj) (by simpa using he) (fun i h => by simpa using hn (i + 1) (by omega))]
theorem ix_get {l : List Int} {x : Int} (h : ix l x < l.length) : l[ix l x] = x := by
  induction l with
  | nil => simp at h
  | cons a l ih =>
    by_cases ha : a = x
    · have e : ix (a :: l) x = 0 := by simp [ix, ha]
      simp only [e, List.getElem_cons_zero]
      exact ha
    · have e : ix (a :: l) x = ix l x + 1 := by simp [ix, ha]
      rw [e] at h
      simp only [e, List.getElem_cons_succ]
      exact ih (by simpa using h)
theorem ix_append_mem {l : List Int} {x : Int} (m : List Int) (h : x ∈ l) : ix (l ++ m) x = ix l x := by
  induction l with
  | nil => cases h
  | cons a l ih =>
    simp only [List.cons_append, ix]
    split
    · rfl
    · rename_i hne
      rcases List.mem_cons.1 h with h | h
      · exact absurd h.symm hne
      · rw [ih h]
theorem ix_append_new {l : List Int} {x : Int} (h : x ∉ l) : ix (l ++ [x]) x = l.length := by
  induction l with
  | nil => simp [ix]
  | cons a l ih =>
    simp only [List.cons_append, ix]
    rw [if_neg (fun e => h (by rw [e]; exact List.mem_cons_self)), ih (fun hm => h (List.mem_cons_of_mem _ hm))]
    simp
theorem not_mem_of_ix {l : List Int} {x : Int} (h : ¬ ix l x < l.length) : x ∉ l := fun hm => h (ix_lt hm)
/-- the names of the first elements, in order -/
def nmStep (ns : List Int) (x : Int) : List Int := if x ∈ ns then ns else ns ++ [x]
def nm (l : List Int) : List Int := l.foldl nmStep []
theorem nm_snoc (l : List Int) (x : Int) : nm (l ++ [x]) = nmStep (nm l) x := by simp [nm, List.foldl_append]
theorem nm_mem (l : List Int) : ∀ x, x ∈ nm l ↔ x ∈ l := by
  suffices ∀ (ns : List Int) (x : Int), x ∈ l.foldl nmStep ns ↔ x ∈ ns ∨ x ∈ l by intro x; have := this [] x; unfold nm; simpa using this
  induction l with
  | nil => simp
  | cons a l ih =>
    intro ns x
    simp only [List.foldl_cons, ih, List.mem_cons]
    unfold nmStep
    split
    · rename_i ha
      constructor
      · rintro (h | h)
        · exact .inl h
        · exact .inr (.inr h)
      · rintro (h | h | h)
        · exact .inl h
        · exact .inl (by rw [h]; exact ha)
        · exact .inr h
    · simp only [List.mem_append, List.mem_singleton]
      constructor
      · rintro ((h | h) | h)
        · exact .inl h
        · exact .inr (.inl h)
        · exact .inr (.inr h)
      · rintro (h | h | h)
        · exact .inl (.inl h)
        · exact .inl (.inr h)
        · exact .inr h
theorem nm_len (l : List Int) : (nm l).length ≤ l.length := by
  suffices ∀ ns : List Int, (l.foldl nmStep ns).length ≤ ns.length + l.length by have := this []; simpa [nm] using this
  induction l with
  | nil => simp
  | cons a l ih =>
    intro ns
    have := ih (nmStep ns a)
    have h2 : (nmStep ns a).length ≤ ns.length + 1 := by unfold nmStep; split <;> simp
    simp only [List.foldl_cons, List.length_cons]
    omega
def Uniq (l : List Int) : Prop := ∀ i j (hi : i < l.length) (hj : j < l.length), i < j → l[i] ≠ l[j]
theorem uniq_step {ns : List Int} (h : Uniq ns) (x : Int) : Uniq (nmStep ns x) := by
  unfold nmStep
  split
  · exact h
  · rename_i hx
    intro i j hi hj hij
    simp only [List.length_append, List.length_singleton] at hi hj
    have hi' : i < ns.length := by omega
    rw [List.getElem_append_left hi']
    by_cases hj' : j < ns.length
    · rw [List.getElem_append_left hj']; exact h i j hi' hj' hij
    · have : j = ns.length := by omega
      subst this
      rw [List.getElem_append_right (Nat.le_refl _)]
      simp only [Nat.sub_self, List.getElem_cons_zero]
      intro e
      exact hx (by rw [← e]; exact List.getElem_mem hi')
theorem nm_uniq (l : List Int) : Uniq (nm l) := by
  suffices ∀ ns, Uniq ns → Uniq (l.foldl nmStep ns) from this [] (fun i j hi => by simp at hi)
  induction l with
  | nil => intro ns h; exact h
  | cons a l ih => intro ns h; exact ih _ (uniq_step h a)
/-- the renumbered list, of the first k elements -/
def rnL (l : List Int) : List Int := l.map fun x => ((ix (nm l) x : Nat) : Int)
theorem rnL_len (l : List Int) : (rnL l).length = l.length := by simp [rnL]
theorem rnL_snoc_old {l : List Int} {x : Int} (h : x ∈ nm l) : nm (l ++ [x]) = nm l ∧ rnL (l ++ [x]) = rnL l ++ [((ix (nm l) x : Nat) : Int)] := by
  have e : nm (l ++ [x]) = nm l := by rw [nm_snoc]; unfold nmStep; rw [if_pos h]
  exact ⟨e, by unfold rnL; rw [e]; simp⟩
theorem rnL_snoc_new {l : List Int} {x : Int} (h : x ∉ nm l) : nm (l ++ [x]) = nm l ++ [x] ∧ rnL (l ++ [x]) = rnL l ++ [(((nm l).length : Nat) : Int)] := by
  have e : nm (l ++ [x]) = nm l ++ [x] := by rw [nm_snoc]; unfold nmStep; rw [if_neg h]
  refine ⟨e, ?_⟩
  unfold rnL
  rw [e, List.map_append, List.map_singleton, ix_append_new h]
  congr 1
  apply List.map_congr_left
  intro y hy
  rw [ix_append_mem _ ((nm_mem l y).2 hy)]
theorem rnL_get {l : List Int} {j : Nat} (hj : j < l.length) : (rnL l)[j]'(by rw [rnL_len]; exact hj) = ((ix (nm l) l[j] : Nat) : Int) := by simp [rnL]
/-- the search's answer among the first j names -/
def atV (ns : List Int) (x : Int) (j : Nat) : Int := if ix ns x < j then (ix ns x : Nat) else -1
theorem atV_zero (ns : List Int) (x : Int) : atV ns x 0 = -1 := rfl
theorem atV_hit {ns : List Int} {x : Int} {j : Nat} (hu : Uniq ns) (hj : j < ns.length) (he : ns[j] = x) : atV ns x (j + 1) = (j : Int) := by
  have e : ix ns x = j := ix_first hj he (fun i h e => hu i j (by omega) hj h (by rw [e, he]))
  unfold atV
  rw [e, if_pos (by omega)]
theorem atV_miss {ns : List Int} {x : Int} {j : Nat} (hj : j < ns.length) (he : ns[j] ≠ x) : atV ns x (j + 1) = atV ns x j := by
  have : ix ns x ≠ j := by
    intro e
    have h := ix_get (l := ns) (x := x) (by omega)
    simp only [e] at h
    exact he h
  unfold atV
  by_cases h : ix ns x < j
  · rw [if_pos h, if_pos (by omega)]
  · rw [if_neg h, if_neg (by omega)]
theorem atV_le (ns : List Int) (x : Int) (j : Nat) : -1 ≤ atV ns x j ∧ atV ns x j ≤ ns.length := by
  have := ix_le ns x
  unfold atV
  split <;> exact ⟨by omega, by omega⟩
theorem atV_end_old {ns : List Int} {x : Int} (h : x ∈ ns) : atV ns x ns.length = (ix ns x : Nat) := by unfold atV; rw [if_pos (ix_lt h)]
theorem atV_end_new {ns : List Int} {x : Int} (h : x ∉ ns) : atV ns x ns.length = -1 := by
  unfold atV
  rw [if_neg]
  intro hl
  have hg := ix_get hl
  exact h (by rw [← hg]; exact List.getElem_mem hl)
def rnR (l : List Int) : List Int × Bool := if l.length ≤ 8 then (rnL l, true) else ([], false)
end Go.Proofs.Ytnkkgfeegaiakaa
