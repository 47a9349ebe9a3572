/- Sorting by insertion by a total strict order gives the one list in order: whatever order the things came in. Condition: no thing twice. -/
import Derived.Test.YtnkkgfeegaiakaaPlain26
import Derived.Test.YtnkkgfeegaiakaaCmp
namespace Go.Proofs.Ytnkkgfeegaiakaa
section
variable {α : Type} (d : α) (lt : α → α → Bool)
theorem putG_perm (l : List α) (x : α) : (putG d lt l x).Perm (x :: l) := by
  unfold putG
  have h := List.perm_middle (a := x) (l₁ := l.take (posG d lt l x l.length)) (l₂ := l.drop (posG d lt l x l.length))
  rwa [List.take_append_drop] at h
theorem putsG_perm (f : List α) : (putsG d lt f).Perm f := by
  have h : ∀ (f o : List α), (f.foldl (putG d lt) o).Perm (f ++ o) := by
    intro f
    induction f with
    | nil => intro o; exact List.Perm.refl _
    | cons x f ih =>
      intro o
      rw [List.foldl_cons]
      refine (ih _).trans ?_
      refine (List.Perm.append_left f (putG_perm d lt o x)).trans ?_
      exact List.perm_middle
  have := h f []
  rwa [List.append_nil] at this
structure TotalLt : Prop where
  irr : ∀ a, lt a a = false
  tr : ∀ a b c, lt a b = true → lt b c = true → lt a c = true
  tot : ∀ a b, a ≠ b → lt a b = true ∨ lt b a = true
variable {lt}
theorem pos_right (l : List α) (x : α) : ∀ k, k ≤ l.length → ∀ i, posG d lt l x k ≤ i → i < k → lt x (l.getD i d) = true := by
  intro k
  induction k with
  | zero => intro _ i _ h; omega
  | succ k ih =>
    intro hk i h1 h2
    unfold posG at h1
    by_cases hx : lt x (l.getD k d) = true
    · rw [if_pos hx] at h1
      rcases Nat.lt_or_ge i k with h | h
      · exact ih (by omega) i h1 h
      · obtain rfl : i = k := by omega
        exact hx
    · rw [if_neg hx] at h1; omega
theorem pos_left (l : List α) (x : α) : ∀ k, k ≤ l.length → posG d lt l x k = 0 ∨ ¬ lt x (l.getD (posG d lt l x k - 1) d) = true := by
  intro k
  induction k with
  | zero => intro _; exact .inl rfl
  | succ k ih =>
    intro hk
    unfold posG
    by_cases hx : lt x (l.getD k d) = true
    · rw [if_pos hx]; exact ih (by omega)
    · rw [if_neg hx]; exact .inr hx
theorem putG_sorted (ht : TotalLt lt) {l : List α} {x : α} (hl : l.Pairwise fun a b => lt a b = true) (hx : x ∉ l) : (putG d lt l x).Pairwise fun a b => lt a b = true := by
  unfold putG
  obtain ⟨p, hp⟩ : ∃ p, p = posG d lt l x l.length := ⟨_, rfl⟩
  rw [← hp]
  have hpl := posG_le d lt l x l.length
  rw [← hp] at hpl
  have h1 : ∀ y ∈ l.drop p, lt x y = true := by
    intro y hy
    obtain ⟨i, hi, e⟩ := List.mem_iff_getElem.1 hy
    rw [List.getElem_drop] at e
    have := pos_right d (lt := lt) l x l.length (Nat.le_refl _) (p + i) (by omega) (by simp at hi; omega)
    rwa [getD_of (by simp at hi; omega), e] at this
  have h2 : ∀ y ∈ l.take p, lt y x = true := by
    intro y hy
    obtain ⟨i, hi, e⟩ := List.mem_iff_getElem.1 hy
    rw [List.getElem_take] at e
    have hip : i < p := by simp at hi; omega
    rcases pos_left d (lt := lt) l x l.length (Nat.le_refl _) with h0 | h0
    · omega
    · rw [← hp, getD_of (by omega)] at h0
      have hq : lt l[p - 1] x = true := by
        rcases ht.tot l[p - 1] x (fun e => hx (e ▸ List.getElem_mem _)) with h | h
        · exact h
        · exact absurd h h0
      rcases Nat.lt_or_ge i (p - 1) with h | h
      · have := List.pairwise_iff_getElem.1 hl i (p - 1) (by omega) (by omega) h
        rw [← e]
        exact ht.tr _ _ _ this hq
      · have : i = p - 1 := by omega
        subst this
        rw [← e]; exact hq
  have hs := hl
  rw [← List.take_append_drop p l] at hs
  obtain ⟨s1, s2, s3⟩ := List.pairwise_append.1 hs
  refine List.pairwise_append.2 ⟨s1, List.pairwise_cons.2 ⟨h1, s2⟩, fun a ha b hb => ?_⟩
  rcases List.mem_cons.1 hb with hb | hb
  · subst hb; exact h2 a ha
  · exact s3 a ha b hb
theorem putsG_sorted (ht : TotalLt lt) (f : List α) (hf : f.Nodup) : (putsG d lt f).Pairwise fun a b => lt a b = true := by
  have h : ∀ (f o : List α), (f ++ o).Nodup → (o.Pairwise fun a b => lt a b = true) → (f.foldl (putG d lt) o).Pairwise fun a b => lt a b = true := by
    intro f
    induction f with
    | nil => intro o _ h; exact h
    | cons x f ih =>
      intro o hn ho
      rw [List.foldl_cons]
      rw [List.cons_append, List.nodup_cons] at hn
      have hxo : x ∉ o := fun h => hn.1 (List.mem_append_right _ h)
      refine ih _ ?_ (putG_sorted d ht ho hxo)
      have hp : (f ++ putG d lt o x).Perm (x :: (f ++ o)) := (List.Perm.append_left f (putG_perm d lt o x)).trans List.perm_middle
      exact hp.nodup_iff.2 (List.nodup_cons.2 hn)
  exact h f [] (by rwa [List.append_nil]) List.Pairwise.nil
theorem sorted_unique (ht : TotalLt lt) : ∀ (a b : List α), (a.Pairwise fun x y => lt x y = true) → (b.Pairwise fun x y => lt x y = true) → a.Perm b → a = b := by
  intro a
  induction a with
  | nil => intro b _ _ hp; exact (List.Perm.nil_eq hp)
  | cons x a ih =>
    intro b ha hb hp
    cases b with
    | nil => exact absurd hp.symm (by simp)
    | cons y b =>
      have e : x = y := by
        have hx : x ∈ y :: b := hp.subset List.mem_cons_self
        have hy : y ∈ x :: a := hp.symm.subset List.mem_cons_self
        rcases List.mem_cons.1 hx with h | h
        · exact h
        · rcases List.mem_cons.1 hy with h' | h'
          · exact h'.symm
          · have h1 := (List.pairwise_cons.1 ha).1 y h'
            have h2 := (List.pairwise_cons.1 hb).1 x h
            have := ht.tr _ _ _ h1 h2
            rw [ht.irr] at this; cases this
      subst e
      rw [ih b (List.pairwise_cons.1 ha).2 (List.pairwise_cons.1 hb).2 (List.Perm.cons_inv hp)]
theorem putsG_of_perm (ht : TotalLt lt) {f g : List α} (hf : f.Nodup) (hp : f.Perm g) : putsG d lt f = putsG d lt g :=
  sorted_unique ht _ _ (putsG_sorted d ht f hf) (putsG_sorted d ht g (hp.nodup_iff.1 hf)) ((putsG_perm d lt f).trans (hp.trans (putsG_perm d lt g).symm))
/-- a list in order stays as it is -/
theorem putsG_id (ht : TotalLt lt) {f : List α} (hs : f.Pairwise fun x y => lt x y = true) : putsG d lt f = f := by
  have hn : f.Nodup := hs.imp fun {a b} h e => by subst e; rw [ht.irr] at h; cases h
  exact sorted_unique ht _ _ (putsG_sorted d ht f hn) hs (putsG_perm d lt f)
end
theorem cmpV_flip (x y : Int) : cmpV y x = - cmpV x y := by unfold cmpV; split <;> split <;> (try split) <;> omega
theorem cmpL_nl (y : Int) (b : List Int) : cmpL [] (y :: b) = -1 := rfl
theorem cmpL_ln (y : Int) (b : List Int) : cmpL (y :: b) [] = 1 := rfl
theorem cmpL_self : ∀ a : List Int, cmpL a a = 0 := by
  intro a
  induction a with
  | nil => rfl
  | cons x a ih => rw [cmpL_cons, if_pos rfl, ih]
theorem cmpL_ne : ∀ a b : List Int, a ≠ b → cmpL a b < 0 ∨ cmpL b a < 0 := by
  intro a
  induction a with
  | nil =>
    intro b h
    cases b with
    | nil => exact absurd rfl h
    | cons y b => left; rw [cmpL_nl]; omega
  | cons x a ih =>
    intro b h
    cases b with
    | nil => right; rw [cmpL_nl]; omega
    | cons y b =>
      rw [cmpL_cons, cmpL_cons]
      by_cases e : x = y
      · subst e
        rw [if_pos rfl, if_pos rfl]
        exact ih b (fun e => h (by rw [e]))
      · rw [if_neg e, if_neg (fun e' => e e'.symm)]
        unfold cmpV
        rcases Int.lt_or_gt_of_ne e with h1 | h1
        · left; rw [if_pos h1]; omega
        · right; rw [if_pos h1]; omega
theorem cmpL_tr : ∀ a b c : List Int, cmpL a b < 0 → cmpL b c < 0 → cmpL a c < 0 := by
  intro a
  induction a with
  | nil =>
    intro b c h1 h2
    cases c with
    | nil =>
      cases b with
      | nil => exact h1
      | cons y b => rw [cmpL_ln] at h2; omega
    | cons z c => rw [cmpL_nl]; omega
  | cons x a ih =>
    intro b c h1 h2
    cases b with
    | nil => rw [cmpL_ln] at h1; omega
    | cons y b =>
      cases c with
      | nil => rw [cmpL_ln] at h2; omega
      | cons z c =>
        rw [cmpL_cons] at h1 h2 ⊢
        by_cases e1 : x = y
        · subst e1
          rw [if_pos rfl] at h1
          by_cases e2 : x = z
          · subst e2; rw [if_pos rfl] at h2 ⊢; exact ih b c h1 h2
          · rw [if_neg e2] at h2 ⊢; exact h2
        · rw [if_neg e1] at h1
          have hxy : x < y := by unfold cmpV at h1; split at h1 <;> (try split at h1) <;> omega
          by_cases e2 : y = z
          · subst e2; rw [if_neg e1]; exact h1
          · rw [if_neg e2] at h2
            have hyz : y < z := by unfold cmpV at h2; split at h2 <;> (try split at h2) <;> omega
            rw [if_neg (by omega)]
            unfold cmpV
            rw [if_pos (by omega)]; omega
theorem ltL_total : TotalLt (fun a b : List Int => decide (cmpL a b < 0)) :=
  ⟨fun a => by rw [cmpL_self]; rfl, fun a b c h1 h2 => decide_eq_true (cmpL_tr a b c (of_decide_eq_true h1) (of_decide_eq_true h2)), fun a b h => by
    rcases cmpL_ne a b h with h | h
    · exact .inl (decide_eq_true h)
    · exact .inr (decide_eq_true h)⟩
end Go.Proofs.Ytnkkgfeegaiakaa
