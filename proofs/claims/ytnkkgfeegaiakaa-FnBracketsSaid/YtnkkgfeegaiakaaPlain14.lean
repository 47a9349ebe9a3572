/- Plain words on the partners of the letters of a path. No condition. -/
import Derived.Test.YtnkkgfeegaiakaaGround
namespace Go.Proofs.Ytnkkgfeegaiakaa
/-- letter i, a u, and letter j, a d, belong together -/
def Arc (l : List UInt8) (i j : Nat) : Prop := i < j ∧ j < l.length ∧ hN l (j + 1) = hN l i ∧ ∀ x, i < x → x ≤ j → hN l i < hN l x
def Pr (l : List UInt8) (i j : Nat) : Prop := Arc l i j ∨ Arc l j i
theorem hN_scan {l : List UInt8} (h : DyckP l) (k : Nat) : scan (l.take k) = some (hN l k) := by
  obtain ⟨t, ht⟩ := dyck_some h k
  rw [hN_of ht, ht]
theorem hN_up {l : List UInt8} (h : DyckP l) {k : Nat} (hk : k < l.length) (hu : l[k].toNat = 117) : hN l (k + 1) = hN l k + 1 :=
  hN_of (dyck_up hk hu (hN_scan h k))
theorem hN_down {l : List UInt8} (h : DyckP l) {k : Nat} (hk : k < l.length) (hu : ¬ l[k].toNat = 117) : hN l k ≠ 0 ∧ hN l (k + 1) = hN l k - 1 := by
  obtain ⟨h0, h1⟩ := dyck_pos h hk hu (hN_scan h k)
  exact ⟨h0, hN_of h1⟩
theorem hN_end {l : List UInt8} (h : DyckP l) : hN l l.length = 0 := by
  have := h.2
  rw [← List.take_length (l := l)] at this
  exact hN_of this
theorem hN_zero (l : List UInt8) : hN l 0 = 0 := rfl
theorem hN_le (l : List UInt8) (h : DyckP l) : ∀ k, k ≤ l.length → hN l k ≤ k := by
  intro k
  induction k with
  | zero => intro _; exact Nat.le_refl _
  | succ k ih =>
    intro hk
    have := ih (by omega)
    rcases Nat.decEq (l[k]'hk).toNat 117 with hu | hu
    · have := hN_down h hk hu; omega
    · have := hN_up h hk hu; omega
theorem Arc.left {l : List UInt8} (h : DyckP l) {i j : Nat} (a : Arc l i j) : ∃ hi : i < l.length, l[i].toNat = 117 := by
  obtain ⟨h1, h2, h3, h4⟩ := a
  have hi : i < l.length := by omega
  refine ⟨hi, ?_⟩
  rcases Nat.decEq (l[i]).toNat 117 with hu | hu
  · have := hN_down h hi hu
    have := h4 (i + 1) (by omega) (by omega)
    omega
  · exact hu
theorem Arc.right {l : List UInt8} (h : DyckP l) {i j : Nat} (a : Arc l i j) : ∃ hj : j < l.length, ¬ l[j].toNat = 117 := by
  obtain ⟨h1, h2, h3, h4⟩ := a
  refine ⟨h2, fun hu => ?_⟩
  have := hN_up h h2 hu
  have := h4 j h1 (Nat.le_refl _)
  omega
/-- the program's stack -/
structure PtS where
  out : List Int
  st : List Int
def ptF (s : PtS) (k : Nat) (c : UInt8) : PtS := if c.toNat = 117 then ⟨s.out, s.st ++ [(k : Int)]⟩ else ⟨(s.out.set k (s.st.getLastD 0)).set (s.st.getLastD 0).toNat (k : Int), s.st.dropLast⟩
def ptS (l : List UInt8) (k : Nat) : PtS := (List.range k).foldl (fun s i => ptF s i (l.getD i 0)) ⟨List.replicate l.length 0, []⟩
theorem ptS_succ {l : List UInt8} {k : Nat} (h : k < l.length) : ptS l (k + 1) = ptF (ptS l k) k l[k] := by
  simp only [ptS, List.range_succ, List.foldl_append, List.foldl_cons, List.foldl_nil, getD_of h]
structure PtInv (l : List UInt8) (k : Nat) (s : PtS) : Prop where
  is : ptS l k = s
  len : s.out.length = l.length
  ht : hN l k = s.st.length
  stk : ∀ r (_ : r < s.st.length), ∃ j : Nat, s.st[r] = (j : Int) ∧ j < k ∧ hN l j = r ∧ ∀ x, j < x → x ≤ k → r < hN l x
  done : ∀ i, i < k → (∃ j : Nat, s.out.getD i 0 = (j : Int) ∧ Pr l i j) ∨ ((i : Int) ∈ s.st)
theorem PtInv.start (l : List UInt8) : PtInv l 0 ⟨List.replicate l.length 0, []⟩ :=
  ⟨rfl, by simp, rfl, fun r hr => by simp at hr, fun i hi => by omega⟩
theorem PtInv.up {l : List UInt8} {k : Nat} {s : PtS} (h : PtInv l k s) (hd : DyckP l) (hk : k < l.length) (hu : l[k].toNat = 117) : PtInv l (k + 1) ⟨s.out, s.st ++ [(k : Int)]⟩ := by
  have hs := hN_up hd hk hu
  have ht := h.ht
  refine ⟨by rw [ptS_succ hk, h.is]; unfold ptF; rw [if_pos hu], h.len, by rw [hs, ht]; simp, fun r hr => ?_, fun i hi => ?_⟩
  · rw [List.length_append, List.length_singleton] at hr
    rcases Nat.lt_or_ge r s.st.length with hl | hl
    · obtain ⟨j, h1, h2, h3, h4⟩ := h.stk r hl
      refine ⟨j, by rw [List.getElem_append_left hl]; exact h1, by omega, h3, fun x hx1 hx2 => ?_⟩
      rcases Nat.lt_or_ge k x with hx | hx
      · obtain rfl : x = k + 1 := by omega
        omega
      · exact h4 x hx1 hx
    · obtain rfl : r = s.st.length := by omega
      refine ⟨k, by rw [List.getElem_append_right (Nat.le_refl _)]; simp, by omega, ht, fun x hx1 hx2 => ?_⟩
      obtain rfl : x = k + 1 := by omega
      omega
  · rcases Nat.lt_or_ge i k with hl | hl
    · rcases h.done i hl with h1 | h1
      · exact .inl h1
      · exact .inr (List.mem_append_left _ h1)
    · obtain rfl : i = k := by omega
      exact .inr (by simp)
theorem PtInv.top {l : List UInt8} {k : Nat} {s : PtS} (h : PtInv l k s) (hd : DyckP l) (hk : k < l.length) (hu : ¬ l[k].toNat = 117) : ∃ (ys : List Int) (j : Nat), s.st = ys ++ [(j : Int)] ∧ j < k ∧ Arc l j k := by
  have hs := hN_down hd hk hu
  have ht := h.ht
  rcases List.eq_nil_or_concat s.st with e | ⟨ys, x, e⟩
  · rw [e] at ht; exact absurd ht hs.1
  · rw [List.concat_eq_append] at e
    have hlen : s.st.length = ys.length + 1 := by rw [e]; simp
    obtain ⟨j, h1, h2, h3, h4⟩ := h.stk ys.length (by omega)
    have hx : s.st[ys.length]'(by omega) = x := by
      simp only [e]
      rw [List.getElem_append_right (Nat.le_refl _)]; simp
    rw [hx] at h1
    subst h1
    refine ⟨ys, j, e, h2, h2, hk, by omega, fun y hy1 hy2 => ?_⟩
    have := h4 y hy1 hy2
    omega
theorem PtInv.down {l : List UInt8} {k : Nat} {s : PtS} (h : PtInv l k s) (hd : DyckP l) (hk : k < l.length) (hu : ¬ l[k].toNat = 117) {ys : List Int} {j : Nat} (e : s.st = ys ++ [(j : Int)]) (hj : j < k) (ha : Arc l j k) :
    PtInv l (k + 1) ⟨(s.out.set k (j : Int)).set j (k : Int), ys⟩ := by
  have hs := hN_down hd hk hu
  have ht := h.ht
  have hlen : s.st.length = ys.length + 1 := by rw [e]; simp
  have hg : s.st.getLastD 0 = (j : Int) := by rw [e]; simp
  have hdl : s.st.dropLast = ys := by rw [e]; simp
  have hol := h.len
  refine ⟨by rw [ptS_succ hk, h.is]; unfold ptF; rw [if_neg hu, hg, hdl, Int.toNat_natCast], by simpa using hol, by show hN l (k + 1) = ys.length; omega, fun r hr => ?_, fun i hi => ?_⟩
  · obtain ⟨q, h1, h2, h3, h4⟩ := h.stk r (by show r < s.st.length; have : r < ys.length := hr; omega)
    have hr' : r < ys.length := hr
    refine ⟨q, ?_, by omega, h3, fun x hx1 hx2 => ?_⟩
    · rw [← h1]
      simp only [e]
      rw [List.getElem_append_left hr']
    · rcases Nat.lt_or_ge k x with hx | hx
      · obtain rfl : x = k + 1 := by omega
        omega
      · exact h4 x hx1 hx
  · by_cases hij : i = j
    · subst hij
      refine .inl ⟨k, ?_, .inl ha⟩
      have h1 : i < ((s.out.set k (i : Int)).set i (k : Int)).length := by simp; omega
      show ((s.out.set k (i : Int)).set i (k : Int)).getD i 0 = _
      rw [getD_of h1, List.getElem_set_self]
    · by_cases hik : i = k
      · subst hik
        refine .inl ⟨j, ?_, .inr ha⟩
        have h1 : i < ((s.out.set i (j : Int)).set j (i : Int)).length := by simp; omega
        show ((s.out.set i (j : Int)).set j (i : Int)).getD i 0 = _
        rw [getD_of h1, List.getElem_set_ne (fun h => hij h.symm), List.getElem_set_self]
      · have he : ((s.out.set k (j : Int)).set j (k : Int)).getD i 0 = s.out.getD i 0 := by
          simp only [List.getD]
          rw [List.getElem?_set_ne (fun h => hij h.symm), List.getElem?_set_ne (fun h => hik h.symm)]
        rcases h.done i (by omega) with ⟨q, h1, h2⟩ | h1
        · exact .inl ⟨q, he.trans h1, h2⟩
        · rw [e] at h1
          rcases List.mem_append.1 h1 with h1 | h1
          · exact .inr h1
          · have : (i : Int) = (j : Int) := by simpa using h1
            exact absurd (by omega) hij
def prt (l : List UInt8) : List Int := (ptS l l.length).out
def mofR (l : List UInt8) : List Int × Bool := if DyckP l then (prt l, true) else ([], false)
theorem PtInv.all {l : List UInt8} (hd : DyckP l) : ∀ k, k ≤ l.length → PtInv l k (ptS l k) := by
  intro k
  induction k with
  | zero => intro _; exact PtInv.start l
  | succ k ih =>
    intro hk
    have h := ih (by omega)
    rcases Nat.decEq (l[k]'hk).toNat 117 with hu | hu
    · obtain ⟨ys, j, e, hj, ha⟩ := h.top hd hk hu
      have := h.down hd hk hu e hj ha
      rw [this.is]; exact this
    · have := h.up hd hk hu
      rw [this.is]; exact this
theorem prt_len {l : List UInt8} (hd : DyckP l) : (prt l).length = l.length := (PtInv.all hd _ (Nat.le_refl _)).len
theorem prt_at {l : List UInt8} (hd : DyckP l) {i : Nat} (hi : i < l.length) : ∃ j : Nat, (prt l).getD i 0 = (j : Int) ∧ Pr l i j := by
  have h := PtInv.all hd _ (Nat.le_refl _)
  rcases h.done i hi with h1 | h1
  · exact h1
  · have ht := h.ht
    rw [hN_end hd] at ht
    rw [List.eq_nil_of_length_eq_zero ht.symm] at h1
    cases h1
theorem prt_get {l : List UInt8} (hd : DyckP l) {i : Nat} (hi : i < l.length) : ∃ j : Nat, (prt l)[i]'(by rw [prt_len hd]; exact hi) = (j : Int) ∧ Pr l i j := by
  obtain ⟨j, h1, h2⟩ := prt_at hd hi
  exact ⟨j, by rw [← h1, getD_of (by rw [prt_len hd]; exact hi)], h2⟩
end Go.Proofs.Ytnkkgfeegaiakaa
