/- Plain words on partitions that do not nest. No condition. -/
import Derived.Test.YtnkkgfeegaiakaaGround
import Derived.Test.YtnkkgfeegaiakaaPlain11
namespace Go.Proofs.Ytnkkgfeegaiakaa
/-- the next element of the same block, or -1 -/
def nx (p : List Int) (i : Nat) : Int := match (List.range p.length).find? (fun k => decide (i < k) && decide (p.getD k 0 = p.getD i 0)) with | some k => (k : Int) | none => -1
theorem nx_some {p : List Int} {i k : Nat} (h1 : i < k) (h2 : k < p.length) (h3 : p.getD k 0 = p.getD i 0) (h4 : ∀ j, i < j → j < k → p.getD j 0 ≠ p.getD i 0) : nx p i = (k : Int) := by
  unfold nx
  have : (List.range p.length).find? (fun k => decide (i < k) && decide (p.getD k 0 = p.getD i 0)) = some k := by
    rw [List.find?_range_eq_some]
    refine ⟨by rw [decide_eq_true h1, decide_eq_true h3]; rfl, by simpa using h2, fun j hj => ?_⟩
    rcases Nat.lt_or_ge i j with h | h
    · have := h4 j h hj
      simp only [h, decide_true, Bool.true_and, this, decide_false, Bool.not_false]
    · simp [show ¬ i < j from by omega]
  rw [this]
theorem nx_none {p : List Int} {i : Nat} (h4 : ∀ j, i < j → j < p.length → p.getD j 0 ≠ p.getD i 0) : nx p i = -1 := by
  unfold nx
  have : (List.range p.length).find? (fun k => decide (i < k) && decide (p.getD k 0 = p.getD i 0)) = none := by
    rw [List.find?_range_eq_none]
    intro j hj
    rcases Nat.lt_or_ge i j with h | h
    · have := h4 j h hj
      simp only [h, decide_true, Bool.true_and, this, decide_false, Bool.not_false]
    · simp [show ¬ i < j from by omega]
  rw [this]
theorem nx_ge (p : List Int) (i : Nat) : -1 ≤ nx p i ∧ nx p i ≤ p.length := by
  unfold nx
  split
  · rename_i k h
    have := List.mem_range.1 (List.mem_of_find?_eq_some h)
    omega
  · omega
def nnAt (p : List Int) (a b : Nat) : Bool := decide (a < b) && (decide (0 ≤ nx p b) && decide (nx p b < nx p a))
def nnI (p : List Int) : Bool := allB p.length fun a => allB p.length fun b => !nnAt p a b
/-- the arcs of a row, of rows -/
def arcRow (r : List Int) (k : Nat) : List (List Int) := (List.range (k - 1)).map fun j => [r.getD j 0, r.getD (j + 1) 0]
def arcsL (bl : List (List Int)) : Nat → List (List Int)
  | 0 => []
  | i + 1 => arcsL bl i ++ arcRow (bl.getD i []) (bl.getD i []).length
def nestA (x y : List Int) : Bool := decide (x.getD 0 0 < y.getD 0 0) && decide (y.getD 1 0 < x.getD 1 0)
def nnS (zs : List (List Int)) : Bool := zs.all fun x => zs.all fun y => !nestA x y
def arcsOf (p : List Int) : List (List Int) := arcsL (bks p p.length) (bks p p.length).length
theorem nx_inv {p : List Int} {i : Nat} (h : 0 ≤ nx p i) : ∃ k : Nat, nx p i = (k : Int) ∧ i < k ∧ k < p.length ∧ p.getD k 0 = p.getD i 0 ∧ ∀ j, i < j → j < k → p.getD j 0 ≠ p.getD i 0 := by
  cases hf : (List.range p.length).find? (fun k => decide (i < k) && decide (p.getD k 0 = p.getD i 0)) with
  | none => unfold nx at h; rw [hf] at h; simp at h
  | some k =>
    have hk : nx p i = (k : Int) := by unfold nx; rw [hf]
    rw [List.find?_range_eq_some] at hf
    obtain ⟨h1, h2, h3⟩ := hf
    rw [Bool.and_eq_true, decide_eq_true_eq, decide_eq_true_eq] at h1
    refine ⟨k, hk, h1.1, by simpa using h2, h1.2, fun j hj1 hj2 e => ?_⟩
    have := h3 j hj2
    rw [decide_eq_true hj1, decide_eq_true e] at this
    simp at this
/-- the elements of a block, in order -/
def fltN (p : List Int) (k y : Nat) : List Nat := (List.range k).filter fun i => decide (p.getD i 0 = (y : Int))
def flt (p : List Int) (k y : Nat) : List Int := (fltN p k y).map fun (i : Nat) => (i : Int)
theorem getD_grow1 (out : List (List Int)) (b : Int) (y : Nat) : (grow1 out b).getD y [] = out.getD y [] := by
  unfold grow1
  by_cases h : b = (out.length : Int)
  · rw [if_pos h]
    rcases Nat.lt_or_ge y out.length with h1 | h1
    · simp [List.getD, List.getElem?_append_left h1]
    · rcases Nat.eq_or_lt_of_le h1 with h2 | h2
      · subst h2; simp [List.getD]
      · rw [List.getD, List.getElem?_eq_none (by simp; omega), List.getD, List.getElem?_eq_none (by omega)]
  · rw [if_neg h]
theorem bks_row {p : List Int} (hp : PartP p) : ∀ k, k ≤ p.length → ∀ y, (bks p k).getD y [] = flt p k y := by
  intro k
  induction k with
  | zero => intro _ y; simp [bks_zero, flt, fltN]
  | succ k ih =>
    intro hk y
    have h1 := ih (by omega)
    obtain ⟨f0, f1, f2⟩ := bks_facts hp (show k < p.length from by omega)
    have hg : p.getD k 0 = p[k] := getD_of (by omega) 0
    rw [bks_succ, hg, bkStep]
    have hfl : flt p (k + 1) y = flt p k y ++ (if p[k] = (y : Int) then [(k : Int)] else []) := by
      unfold flt fltN
      rw [List.range_succ, List.filter_append, List.map_append]
      congr 1
      by_cases e : p[k] = (y : Int)
      · rw [if_pos e, List.filter_cons_of_pos (by rw [hg]; simpa using e)]; rfl
      · rw [if_neg e, List.filter_cons_of_neg (by rw [hg]; simpa using e)]; rfl
    have hlen : p[k].toNat < (grow1 (bks p k) p[k]).length := by
      unfold grow1
      by_cases e : p[k] = ((bks p k).length : Int)
      · rw [if_pos e]; simp; omega
      · rw [if_neg e]; omega
    rw [hfl]
    by_cases e : y = p[k].toNat
    · have e' : p[k] = (y : Int) := by omega
      rw [if_pos e', e, getD_set_eq hlen, getD_grow1, h1]
    · have e' : ¬ p[k] = (y : Int) := by omega
      rw [if_neg e', getD_set_ne e, getD_grow1, h1, List.append_nil]
theorem fltN_mem {p : List Int} {k y i : Nat} : i ∈ fltN p k y ↔ i < k ∧ p.getD i 0 = (y : Int) := by simp [fltN]
theorem fltN_lt {p : List Int} {k y i j : Nat} (hij : i < j) (hj : j < (fltN p k y).length) : (fltN p k y)[i] < (fltN p k y)[j] := by
  have : (fltN p k y).Pairwise (· < ·) := List.Pairwise.filter _ List.pairwise_lt_range
  exact List.pairwise_iff_getElem.1 this i j (by omega) hj hij
theorem fltN_le {p : List Int} {k y i j : Nat} (hij : i ≤ j) (hj : j < (fltN p k y).length) : (fltN p k y)[i] ≤ (fltN p k y)[j] := by
  rcases Nat.lt_or_ge i j with h | h
  · exact Nat.le_of_lt (fltN_lt h hj)
  · have : i = j := by omega
    subst this; exact Nat.le_refl _
theorem flt_len (p : List Int) (k y : Nat) : (flt p k y).length = (fltN p k y).length := by simp [flt]
theorem flt_get {p : List Int} {k y j : Nat} (h : j < (fltN p k y).length) : (flt p k y).getD j 0 = (((fltN p k y)[j] : Nat) : Int) := by
  rw [getD_of (by rw [flt_len]; exact h)]; simp [flt]
theorem arcRow_mem {r : List Int} {x : List Int} : x ∈ arcRow r r.length ↔ ∃ j, j + 1 < r.length ∧ x = [r.getD j 0, r.getD (j + 1) 0] := by
  unfold arcRow
  rw [List.mem_map]
  constructor
  · rintro ⟨j, hj, e⟩
    exact ⟨j, by have := List.mem_range.1 hj; omega, e.symm⟩
  · rintro ⟨j, hj, e⟩
    exact ⟨j, List.mem_range.2 (by omega), e.symm⟩
theorem arcsL_mem {bl : List (List Int)} {x : List Int} : ∀ i, x ∈ arcsL bl i ↔ ∃ y, y < i ∧ x ∈ arcRow (bl.getD y []) (bl.getD y []).length := by
  intro i
  induction i with
  | zero => simp [arcsL]
  | succ i ih =>
    rw [arcsL, List.mem_append, ih]
    constructor
    · rintro (⟨y, h1, h2⟩ | h)
      · exact ⟨y, by omega, h2⟩
      · exact ⟨i, by omega, h⟩
    · rintro ⟨y, h1, h2⟩
      by_cases e : y = i
      · subst e; exact .inr h2
      · exact .inl ⟨y, by omega, h2⟩
theorem arcs_from {p : List Int} (hp : PartP p) {x : List Int} (h : x ∈ arcsOf p) : ∃ a : Nat, a < p.length ∧ 0 ≤ nx p a ∧ x = [(a : Int), nx p a] := by
  obtain ⟨y, _, h2⟩ := (arcsL_mem _).1 h
  rw [bks_row hp _ (Nat.le_refl _)] at h2
  obtain ⟨j, hj, e⟩ := arcRow_mem.1 h2
  rw [flt_len] at hj
  rw [flt_get (by omega), flt_get hj] at e
  obtain ⟨a1, a2⟩ := fltN_mem.1 (List.getElem_mem (show j < (fltN p p.length y).length from by omega))
  obtain ⟨c1, c2⟩ := fltN_mem.1 (List.getElem_mem hj)
  have hlt := fltN_lt (Nat.lt_succ_self j) hj
  have hnx : nx p (fltN p p.length y)[j] = (((fltN p p.length y)[j + 1] : Nat) : Int) := by
    refine nx_some hlt c1 (by rw [c2, a2]) fun m h1 h2 he => ?_
    have hm : m ∈ fltN p p.length y := fltN_mem.2 ⟨by omega, by rw [he, a2]⟩
    obtain ⟨q, hq, e2⟩ := List.getElem_of_mem hm
    rcases Nat.lt_or_ge j q with h3 | h3
    · have := fltN_le (show j + 1 ≤ q from h3) hq
      omega
    · have := fltN_le h3 (show j < (fltN p p.length y).length from by omega)
      omega
  exact ⟨_, a1, by rw [hnx]; omega, by rw [hnx]; exact e⟩
theorem arcs_to {p : List Int} (hp : PartP p) {a : Nat} (ha : a < p.length) (h : 0 ≤ nx p a) : [(a : Int), nx p a] ∈ arcsOf p := by
  obtain ⟨k, hk, h1, h2, h3, h4⟩ := nx_inv h
  obtain ⟨f0, f1, _⟩ := bks_facts hp ha
  have hga : p.getD a 0 = p[a] := getD_of ha 0
  obtain ⟨y, hy⟩ : ∃ y : Nat, p.getD a 0 = (y : Int) := ⟨p[a].toNat, by rw [hga]; omega⟩
  have hma : a ∈ fltN p p.length y := fltN_mem.2 ⟨ha, hy⟩
  have hmk : k ∈ fltN p p.length y := fltN_mem.2 ⟨h2, by rw [h3, hy]⟩
  obtain ⟨j, hj, e1⟩ := List.getElem_of_mem hma
  obtain ⟨q, hq, e2⟩ := List.getElem_of_mem hmk
  have hjq : j < q := by
    rcases Nat.lt_or_ge j q with h | h
    · exact h
    · have := fltN_le h hj; omega
  have hq1 : q = j + 1 := by
    rcases Nat.lt_or_ge (j + 1) q with h | h
    · have g1 := fltN_lt h hq
      have g2 := fltN_lt (Nat.lt_succ_self j) (show j + 1 < (fltN p p.length y).length from by omega)
      have g3 := (fltN_mem.1 (List.getElem_mem (show j + 1 < (fltN p p.length y).length from by omega))).2
      exact absurd (g3.trans hy.symm) (h4 _ (Nat.lt_of_le_of_lt (Nat.le_of_eq e1.symm) g2) (Nat.lt_of_lt_of_eq g1 e2))
    · omega
  subst hq1
  have hyl : y < (bks p p.length).length := by
    rcases Nat.lt_or_ge y (bks p p.length).length with h | h
    · exact h
    · have g := bks_row hp p.length (Nat.le_refl _) y
      rw [List.getD, List.getElem?_eq_none h] at g
      have : (flt p p.length y).length = 0 := by rw [← g]; rfl
      rw [flt_len] at this
      omega
  refine (arcsL_mem _).2 ⟨y, hyl, ?_⟩
  rw [bks_row hp _ (Nat.le_refl _)]
  refine arcRow_mem.2 ⟨j, by rw [flt_len]; exact hq, ?_⟩
  rw [flt_get hj, flt_get hq, e1, e2, hk]
theorem nnS_iff {zs : List (List Int)} : nnS zs = true ↔ ∀ x ∈ zs, ∀ y ∈ zs, nestA x y = false := by simp [nnS]
theorem nnI_iff {p : List Int} : nnI p = true ↔ ∀ a, a < p.length → ∀ b, b < p.length → nnAt p a b = false := by simp [nnI, allB_iff]
theorem nn_eq {p : List Int} (hp : PartP p) : nnS (arcsOf p) = nnI p := by
  rw [Bool.eq_iff_iff, nnS_iff, nnI_iff]
  constructor
  · intro h a ha b hb
    cases hn : nnAt p a b with
    | false => rfl
    | true =>
      unfold nnAt at hn
      rw [Bool.and_eq_true, Bool.and_eq_true, decide_eq_true_eq, decide_eq_true_eq, decide_eq_true_eq] at hn
      obtain ⟨h1, h2, h3⟩ := hn
      have := h _ (arcs_to hp ha (by omega)) _ (arcs_to hp hb h2)
      simp [nestA] at this
      have := this h1
      omega
  · intro h x hx y hy
    obtain ⟨a, ha, ha2, rfl⟩ := arcs_from hp hx
    obtain ⟨b, hb, hb2, rfl⟩ := arcs_from hp hy
    have := h a ha b hb
    cases hn : nestA [(a : Int), nx p a] [(b : Int), nx p b] with
    | false => rfl
    | true =>
      simp [nestA] at hn
      simp [nnAt] at this
      have := this hn.1 hb2
      omega
def NnP (p : List Int) : Prop := PartP p ∧ nnI p = true
instance (p : List Int) : Decidable (NnP p) := by unfold NnP; exact inferInstance
end Go.Proofs.Ytnkkgfeegaiakaa
