/- Plain words for the law on tableaux: each tableau is that of its path; what a test of all short paths tells of promotion, evacuation and turned matchings. No condition. -/
import Derived.Test.YtnkkgfeegaiakaaPlain20
import Derived.Test.YtnkkgfeegaiakaaPlain21
import Derived.Test.YtnkkgfeegaiakaaPlain14
import Derived.Test.YtnkkgfeegaiakaaGround
import Derived.Test.YtnkkgfeegaiakaaPlain15
namespace Go.Proofs.Ytnkkgfeegaiakaa
/-- two ascending lists with the same members are one -/
theorem asc_eq : ∀ (x y : List Int), x.Pairwise (· < ·) → y.Pairwise (· < ·) → (∀ z, z ∈ x ↔ z ∈ y) → x = y := by
  intro x
  induction x with
  | nil =>
    intro y _ _ h
    cases y with
    | nil => rfl
    | cons b y => exact absurd ((h b).2 (by simp)) (by simp)
  | cons a x ih =>
    intro y hx hy h
    cases y with
    | nil => exact absurd ((h a).1 (by simp)) (by simp)
    | cons b y =>
      obtain ⟨hx1, hx2⟩ := List.pairwise_cons.1 hx
      obtain ⟨hy1, hy2⟩ := List.pairwise_cons.1 hy
      have e : a = b := by
        have h1 := (h a).1 (by simp)
        have h2 := (h b).2 (by simp)
        rcases List.mem_cons.1 h1 with h1 | h1
        · exact h1
        · rcases List.mem_cons.1 h2 with h2 | h2
          · exact h2.symm
          · have := hy1 a h1
            have := hx1 b h2
            omega
      subst e
      rw [ih y hx2 hy2 fun z => ?_]
      constructor
      · intro hz
        rcases List.mem_cons.1 ((h z).1 (List.mem_cons_of_mem _ hz)) with e | hz'
        · subst e; have := hx1 z hz; omega
        · exact hz'
      · intro hz
        rcases List.mem_cons.1 ((h z).2 (List.mem_cons_of_mem _ hz)) with e | hz'
        · subst e; have := hy1 z hz; omega
        · exact hz'
theorem potL_get {a : List Int} {m i : Nat} (h : i < m) : (potL a m).getD i 0 = if (i : Int) + 1 ∈ a then 117 else 100 := by
  rw [getD_of (by rw [potL_len]; exact h)]; simp [potL]
theorem asc_flat {f : Nat → List Int} (hf : ∀ i, f i = [] ∨ f i = [(i : Int) + 1]) : ∀ k, ((List.range k).flatMap f).Pairwise (· < ·) ∧ ∀ x ∈ (List.range k).flatMap f, x ≤ (k : Int) := by
  intro k
  induction k with
  | zero => simp
  | succ k ih =>
    rw [List.range_succ, List.flatMap_append, List.flatMap_cons, List.flatMap_nil, List.append_nil]
    rcases hf k with e | e
    · rw [e, List.append_nil]
      exact ⟨ih.1, fun x hx => by have := ih.2 x hx; omega⟩
    · rw [e]
      refine ⟨List.pairwise_append.2 ⟨ih.1, by simp, fun x hx y hy => ?_⟩, fun x hx => ?_⟩
      · have := ih.2 x hx
        rw [List.mem_singleton] at hy
        omega
      · rcases List.mem_append.1 hx with hx | hx
        · have := ih.2 x hx; omega
        · rw [List.mem_singleton] at hx; omega
theorem RowsP.pair {a b : List Int} (h : RowsP a b) : a.Pairwise (· < ·) ∧ b.Pairwise (· < ·) := by
  refine ⟨List.pairwise_iff_getElem.2 fun i j hi hj hij => ?_, List.pairwise_iff_getElem.2 fun i j hi hj hij => ?_⟩
  · have := (h.asc hij hj).1; rw [getD_of hi, getD_of hj] at this; exact this
  · have := (h.asc hij (by rw [h.1]; exact hj)).2; rw [getD_of hi, getD_of hj] at this; exact this
theorem tab_pot {t : List (List Int)} (h : TabP t) : tabR (potL (rw_ t 0) (2 * (rw_ t 0).length)) = (t, true) := by
  have hd := pot_dyck h.2
  obtain ⟨h2, hr⟩ := h
  have ht : t = [rw_ t 0, rw_ t 1] := by
    match t, h2 with
    | [x, y], _ => rfl
  unfold tabR
  rw [if_pos hd, potL_len]
  generalize rw_ t 0 = a at *
  generalize rw_ t 1 = b at *
  rw [ht]
  obtain ⟨p1, p2⟩ := hr.pair
  have e1 : tuL (potL a (2 * a.length)) (2 * a.length) = a := by
    refine asc_eq _ _ (asc_flat (fun i => by split <;> simp) _).1 p1 fun z => ?_
    simp only [tuL, List.mem_flatMap, List.mem_range]
    constructor
    · rintro ⟨i, hi, hz⟩
      rw [potL_get hi] at hz
      by_cases hm : (i : Int) + 1 ∈ a
      · rw [if_pos hm, if_pos (by rfl), List.mem_singleton] at hz
        rw [hz]; exact hm
      · rw [if_neg hm, if_neg (by decide)] at hz
        cases hz
    · intro hz
      obtain ⟨j, hj, e⟩ := mem_getD hz
      have hb := hr.bounds hj
      refine ⟨(z - 1).toNat, by omega, ?_⟩
      have ez : (((z - 1).toNat : Nat) : Int) + 1 = z := by omega
      rw [potL_get (by omega), ez, if_pos hz, if_pos (by rfl)]
      simp
  have e2 : tdL (potL a (2 * a.length)) (2 * a.length) = b := by
    refine asc_eq _ _ (asc_flat (fun i => by split <;> simp) _).1 p2 fun z => ?_
    simp only [tdL, List.mem_flatMap, List.mem_range]
    constructor
    · rintro ⟨i, hi, hz⟩
      rw [potL_get hi] at hz
      by_cases hm : (i : Int) + 1 ∈ a
      · rw [if_pos hm, if_pos (by rfl)] at hz
        cases hz
      · rw [if_neg hm, if_neg (by decide), List.mem_singleton] at hz
        rcases hr.cover hi with ⟨j, hj, e⟩ | ⟨j, hj, e⟩
        · exact absurd (by rw [← e]; exact getD_mem hj) hm
        · rw [hz, ← e]; exact getD_mem (by rw [← hr.1]; exact hj)
    · intro hz
      obtain ⟨j, hj, e⟩ := mem_getD hz
      rw [← hr.1] at hj
      have hb := hr.bounds hj
      refine ⟨(z - 1).toNat, by omega, ?_⟩
      have ez : (((z - 1).toNat : Nat) : Int) + 1 = z := by omega
      have hn : ¬ z ∈ a := fun hm => by
        obtain ⟨i, hi, e'⟩ := mem_getD hm
        exact hr.2.2.2.2.2 i hi j hj (by rw [e', e])
      rw [potL_get (by omega), ez, if_neg hn, if_neg (by decide)]
      simp
  rw [e1, e2]
/-- the test of a path -/
def tT (l : List UInt8) : Bool := decide (potR (tabR l).1 = (l, true)) && (decide (revD (revD l) = l) && ((potR (proR (tabR l).1).1).2 && (decide (l = []) || decide ((potR (proR (tabR l).1).1).1 = (pomR (turnR (mofR l).1 1).1).1))))
set_option maxRecDepth 100000 in
theorem tT_all : tstAll tT 6 = true := by decide +kernel
theorem mofR_yes (l : List UInt8) : (mofR l).2 = decide (DyckP l) := by
  unfold mofR
  by_cases h : DyckP l
  · rw [if_pos h, decide_eq_true h]
  · rw [if_neg h, decide_eq_false h]
theorem pro_yes (t : List (List Int)) : (proR t).2 = decide (TabP t) := by
  unfold proR
  by_cases h : TabP t
  · rw [if_pos h, decide_eq_true h]; split <;> rfl
  · rw [if_neg h, decide_eq_false h]
theorem eva_yes (t : List (List Int)) : (evaR t).2 = decide (TabP t) := by
  by_cases h : TabP t
  · rw [evaR_yes h, decide_eq_true h]
  · unfold evaR; rw [if_neg h, decide_eq_false h]
theorem pot_yes (t : List (List Int)) : (potR t).2 = decide (TabP t) := by
  unfold potR
  by_cases h : TabP t
  · rw [if_pos h, decide_eq_true h]
  · rw [if_neg h, decide_eq_false h]
theorem tab_law {t : List (List Int)} (h : TabP t) (h6 : (rw_ t 0).length ≤ 6) : ∃ l, DyckP l ∧ l.length ≤ 12 ∧ potR t = (l, true) ∧ tabR l = (t, true) ∧ evaR (evaR t).1 = (t, true) ∧ (potR (proR t).1).2 = true ∧ (l ≠ [] → (potR (proR t).1).1 = (pomR (turnR (mofR l).1 1).1).1) := by
  have hd := pot_dyck h.2
  have hl : (potL (rw_ t 0) (2 * (rw_ t 0).length)).length ≤ 12 := by rw [potL_len]; omega
  have ht := tab_pot h
  have hv : evaR t = tabR (revD (potL (rw_ t 0) (2 * (rw_ t 0).length))) := by unfold evaR; rw [if_pos h]
  refine ⟨potL (rw_ t 0) (2 * (rw_ t 0).length), hd, hl, by unfold potR; rw [if_pos h], ht, ?_⟩
  generalize potL (rw_ t 0) (2 * (rw_ t 0).length) = l at *
  have hT := tstAll_sound tT_all hd hl
  have hrd := rev_dyck hd
  have hR := tstAll_sound tT_all hrd (by simpa [revD] using hl)
  unfold tT at hT hR
  simp only [Bool.and_eq_true, decide_eq_true_eq, Bool.or_eq_true] at hT hR
  rw [ht] at hT
  refine ⟨?_, hT.2.2.1, fun hne => (hT.2.2.2.resolve_left hne)⟩
  rw [hv]
  have hp := hR.1
  unfold potR at hp
  by_cases hq : TabP (tabR (revD l)).1
  · rw [if_pos hq] at hp
    injection hp with hp1 _
    unfold evaR
    rw [if_pos hq, hp1, hT.2.1, ht]
  · rw [if_neg hq] at hp
    injection hp with _ hp2
    cases hp2
end Go.Proofs.Ytnkkgfeegaiakaa
