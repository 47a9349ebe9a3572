/- The ground of the proof: Plain words on renumbering: the first places of values, the names in order of their first places. No condition; Plain words on the partners of the letters of a path. No condition; Plain words on the partition of a path: blocks by runs of d, taken off a stack or looked up at the partners. No condition; and more. No condition but what each lemma says. -/
import Derived.Test.YtnkkgfeegaiakaaGround
import Derived.Deep.RegionLaw
/- Plain words on renumbering: the first places of values, the names in order of their first places. No condition. -/
namespace Go.Proofs.Ytnkkgfeegaiakaa
/-- the first place of x in l, or l's length -/
def ix : List Int → Int → Nat
  | [], _ => 0
  | a :: l, x => if a = x then 0 else ix l x + 1
theorem ix_le (l : List Int) (x : Int) : ix l x ≤ l.length := by
  induction l with
  | nil => simp [ix]
  | cons a l ih => simp only [ix]; split <;> simp <;> omega
theorem ix_lt {l : List Int} {x : Int} (h : x ∈ l) : ix l x < l.length := by
  induction l with
  | nil => cases h
  | cons a l ih =>
    simp only [ix]
    split
    · simp
    · rename_i hne
      have : x ∈ l := by
        rcases List.mem_cons.1 h with h | h
        · exact absurd h.symm hne
        · exact h
      have := ih this
      simp; omega
theorem ix_first {l : List Int} {x : Int} {j : Nat} (hj : j < l.length) (he : l[j] = x) (hn : ∀ i (h : i < j), l[i]'(by omega) ≠ x) : ix l x = j := by
  induction l generalizing j with
  | nil => simp at hj
  | cons a l ih =>
    cases j with
    | zero => simp only [List.getElem_cons_zero] at he; simp [ix, he]
    | succ j =>
      have h0 : a ≠ x := by simpa using hn 0 (by omega)
      simp only [ix]
      rw [if_neg h0, ih (j := j) (by simpa using hj) (by simpa using he) (fun i h => by simpa using hn (i + 1) (by omega))]
theorem ix_get {l : List Int} {x : Int} (h : ix l x < l.length) : l[ix l x] = x := by
  induction l with
  | nil => simp at h
  | cons a l ih =>
    by_cases ha : a = x
    · have e : ix (a :: l) x = 0 := by simp [ix, ha]
      simp only [e, List.getElem_cons_zero]
      exact ha
    · have e : ix (a :: l) x = ix l x + 1 := by simp [ix, ha]
      rw [e] at h
      simp only [e, List.getElem_cons_succ]
      exact ih (by simpa using h)
theorem ix_append_mem {l : List Int} {x : Int} (m : List Int) (h : x ∈ l) : ix (l ++ m) x = ix l x := by
  induction l with
  | nil => cases h
  | cons a l ih =>
    simp only [List.cons_append, ix]
    split
    · rfl
    · rename_i hne
      rcases List.mem_cons.1 h with h | h
      · exact absurd h.symm hne
      · rw [ih h]
theorem ix_append_new {l : List Int} {x : Int} (h : x ∉ l) : ix (l ++ [x]) x = l.length := by
  induction l with
  | nil => simp [ix]
  | cons a l ih =>
    simp only [List.cons_append, ix]
    rw [if_neg (fun e => h (by rw [e]; exact List.mem_cons_self)), ih (fun hm => h (List.mem_cons_of_mem _ hm))]
    simp
theorem not_mem_of_ix {l : List Int} {x : Int} (h : ¬ ix l x < l.length) : x ∉ l := fun hm => h (ix_lt hm)
/-- the names of the first elements, in order -/
def nmStep (ns : List Int) (x : Int) : List Int := if x ∈ ns then ns else ns ++ [x]
def nm (l : List Int) : List Int := l.foldl nmStep []
theorem nm_snoc (l : List Int) (x : Int) : nm (l ++ [x]) = nmStep (nm l) x := by simp [nm, List.foldl_append]
theorem nm_mem (l : List Int) : ∀ x, x ∈ nm l ↔ x ∈ l := by
  suffices ∀ (ns : List Int) (x : Int), x ∈ l.foldl nmStep ns ↔ x ∈ ns ∨ x ∈ l by intro x; have := this [] x; unfold nm; simpa using this
  induction l with
  | nil => simp
  | cons a l ih =>
    intro ns x
    simp only [List.foldl_cons, ih, List.mem_cons]
    unfold nmStep
    split
    · rename_i ha
      constructor
      · rintro (h | h)
        · exact .inl h
        · exact .inr (.inr h)
      · rintro (h | h | h)
        · exact .inl h
        · exact .inl (by rw [h]; exact ha)
        · exact .inr h
    · simp only [List.mem_append, List.mem_singleton]
      constructor
      · rintro ((h | h) | h)
        · exact .inl h
        · exact .inr (.inl h)
        · exact .inr (.inr h)
      · rintro (h | h | h)
        · exact .inl (.inl h)
        · exact .inl (.inr h)
        · exact .inr h
theorem nm_len (l : List Int) : (nm l).length ≤ l.length := by
  suffices ∀ ns : List Int, (l.foldl nmStep ns).length ≤ ns.length + l.length by have := this []; simpa [nm] using this
  induction l with
  | nil => simp
  | cons a l ih =>
    intro ns
    have := ih (nmStep ns a)
    have h2 : (nmStep ns a).length ≤ ns.length + 1 := by unfold nmStep; split <;> simp
    simp only [List.foldl_cons, List.length_cons]
    omega
def Uniq (l : List Int) : Prop := ∀ i j (hi : i < l.length) (hj : j < l.length), i < j → l[i] ≠ l[j]
theorem uniq_step {ns : List Int} (h : Uniq ns) (x : Int) : Uniq (nmStep ns x) := by
  unfold nmStep
  split
  · exact h
  · rename_i hx
    intro i j hi hj hij
    simp only [List.length_append, List.length_singleton] at hi hj
    have hi' : i < ns.length := by omega
    rw [List.getElem_append_left hi']
    by_cases hj' : j < ns.length
    · rw [List.getElem_append_left hj']; exact h i j hi' hj' hij
    · have : j = ns.length := by omega
      subst this
      rw [List.getElem_append_right (Nat.le_refl _)]
      simp only [Nat.sub_self, List.getElem_cons_zero]
      intro e
      exact hx (by rw [← e]; exact List.getElem_mem hi')
theorem nm_uniq (l : List Int) : Uniq (nm l) := by
  suffices ∀ ns, Uniq ns → Uniq (l.foldl nmStep ns) from this [] (fun i j hi => by simp at hi)
  induction l with
  | nil => intro ns h; exact h
  | cons a l ih => intro ns h; exact ih _ (uniq_step h a)
/-- the renumbered list, of the first k elements -/
def rnL (l : List Int) : List Int := l.map fun x => ((ix (nm l) x : Nat) : Int)
theorem rnL_len (l : List Int) : (rnL l).length = l.length := by simp [rnL]
theorem rnL_snoc_old {l : List Int} {x : Int} (h : x ∈ nm l) : nm (l ++ [x]) = nm l ∧ rnL (l ++ [x]) = rnL l ++ [((ix (nm l) x : Nat) : Int)] := by
  have e : nm (l ++ [x]) = nm l := by rw [nm_snoc]; unfold nmStep; rw [if_pos h]
  exact ⟨e, by unfold rnL; rw [e]; simp⟩
theorem rnL_snoc_new {l : List Int} {x : Int} (h : x ∉ nm l) : nm (l ++ [x]) = nm l ++ [x] ∧ rnL (l ++ [x]) = rnL l ++ [(((nm l).length : Nat) : Int)] := by
  have e : nm (l ++ [x]) = nm l ++ [x] := by rw [nm_snoc]; unfold nmStep; rw [if_neg h]
  refine ⟨e, ?_⟩
  unfold rnL
  rw [e, List.map_append, List.map_singleton, ix_append_new h]
  congr 1
  apply List.map_congr_left
  intro y hy
  rw [ix_append_mem _ ((nm_mem l y).2 hy)]
theorem rnL_get {l : List Int} {j : Nat} (hj : j < l.length) : (rnL l)[j]'(by rw [rnL_len]; exact hj) = ((ix (nm l) l[j] : Nat) : Int) := by simp [rnL]
/-- the search's answer among the first j names -/
def atV (ns : List Int) (x : Int) (j : Nat) : Int := if ix ns x < j then (ix ns x : Nat) else -1
theorem atV_zero (ns : List Int) (x : Int) : atV ns x 0 = -1 := rfl
theorem atV_hit {ns : List Int} {x : Int} {j : Nat} (hu : Uniq ns) (hj : j < ns.length) (he : ns[j] = x) : atV ns x (j + 1) = (j : Int) := by
  have e : ix ns x = j := ix_first hj he (fun i h e => hu i j (by omega) hj h (by rw [e, he]))
  unfold atV
  rw [e, if_pos (by omega)]
theorem atV_miss {ns : List Int} {x : Int} {j : Nat} (hj : j < ns.length) (he : ns[j] ≠ x) : atV ns x (j + 1) = atV ns x j := by
  have : ix ns x ≠ j := by
    intro e
    have h := ix_get (l := ns) (x := x) (by omega)
    simp only [e] at h
    exact he h
  unfold atV
  by_cases h : ix ns x < j
  · rw [if_pos h, if_pos (by omega)]
  · rw [if_neg h, if_neg (by omega)]
theorem atV_le (ns : List Int) (x : Int) (j : Nat) : -1 ≤ atV ns x j ∧ atV ns x j ≤ ns.length := by
  have := ix_le ns x
  unfold atV
  split <;> exact ⟨by omega, by omega⟩
theorem atV_end_old {ns : List Int} {x : Int} (h : x ∈ ns) : atV ns x ns.length = (ix ns x : Nat) := by unfold atV; rw [if_pos (ix_lt h)]
theorem atV_end_new {ns : List Int} {x : Int} (h : x ∉ ns) : atV ns x ns.length = -1 := by
  unfold atV
  rw [if_neg]
  intro hl
  have hg := ix_get hl
  exact h (by rw [← hg]; exact List.getElem_mem hl)
def rnR (l : List Int) : List Int × Bool := if l.length ≤ 8 then (rnL l, true) else ([], false)
end Go.Proofs.Ytnkkgfeegaiakaa

/- Plain words on the partners of the letters of a path. No condition. -/
namespace Go.Proofs.Ytnkkgfeegaiakaa
/-- letter i, a u, and letter j, a d, belong together -/
def Arc (l : List UInt8) (i j : Nat) : Prop := i < j ∧ j < l.length ∧ hN l (j + 1) = hN l i ∧ ∀ x, i < x → x ≤ j → hN l i < hN l x
def Pr (l : List UInt8) (i j : Nat) : Prop := Arc l i j ∨ Arc l j i
theorem hN_scan {l : List UInt8} (h : DyckP l) (k : Nat) : scan (l.take k) = some (hN l k) := by
  obtain ⟨t, ht⟩ := dyck_some h k
  rw [hN_of ht, ht]
theorem hN_up {l : List UInt8} (h : DyckP l) {k : Nat} (hk : k < l.length) (hu : l[k].toNat = 117) : hN l (k + 1) = hN l k + 1 :=
  hN_of (dyck_up hk hu (hN_scan h k))
theorem hN_down {l : List UInt8} (h : DyckP l) {k : Nat} (hk : k < l.length) (hu : ¬ l[k].toNat = 117) : hN l k ≠ 0 ∧ hN l (k + 1) = hN l k - 1 := by
  obtain ⟨h0, h1⟩ := dyck_pos h hk hu (hN_scan h k)
  exact ⟨h0, hN_of h1⟩
theorem hN_end {l : List UInt8} (h : DyckP l) : hN l l.length = 0 := by
  have := h.2
  rw [← List.take_length (l := l)] at this
  exact hN_of this
theorem hN_zero (l : List UInt8) : hN l 0 = 0 := rfl
theorem hN_le (l : List UInt8) (h : DyckP l) : ∀ k, k ≤ l.length → hN l k ≤ k := by
  intro k
  induction k with
  | zero => intro _; exact Nat.le_refl _
  | succ k ih =>
    intro hk
    have := ih (by omega)
    rcases Nat.decEq (l[k]'hk).toNat 117 with hu | hu
    · have := hN_down h hk hu; omega
    · have := hN_up h hk hu; omega
theorem Arc.left {l : List UInt8} (h : DyckP l) {i j : Nat} (a : Arc l i j) : ∃ hi : i < l.length, l[i].toNat = 117 := by
  obtain ⟨h1, h2, h3, h4⟩ := a
  have hi : i < l.length := by omega
  refine ⟨hi, ?_⟩
  rcases Nat.decEq (l[i]).toNat 117 with hu | hu
  · have := hN_down h hi hu
    have := h4 (i + 1) (by omega) (by omega)
    omega
  · exact hu
theorem Arc.right {l : List UInt8} (h : DyckP l) {i j : Nat} (a : Arc l i j) : ∃ hj : j < l.length, ¬ l[j].toNat = 117 := by
  obtain ⟨h1, h2, h3, h4⟩ := a
  refine ⟨h2, fun hu => ?_⟩
  have := hN_up h h2 hu
  have := h4 j h1 (Nat.le_refl _)
  omega
/-- the program's stack -/
structure PtS where
  out : List Int
  st : List Int
def ptF (s : PtS) (k : Nat) (c : UInt8) : PtS := if c.toNat = 117 then ⟨s.out, s.st ++ [(k : Int)]⟩ else ⟨(s.out.set k (s.st.getLastD 0)).set (s.st.getLastD 0).toNat (k : Int), s.st.dropLast⟩
def ptS (l : List UInt8) (k : Nat) : PtS := (List.range k).foldl (fun s i => ptF s i (l.getD i 0)) ⟨List.replicate l.length 0, []⟩
theorem ptS_succ {l : List UInt8} {k : Nat} (h : k < l.length) : ptS l (k + 1) = ptF (ptS l k) k l[k] := by
  simp only [ptS, List.range_succ, List.foldl_append, List.foldl_cons, List.foldl_nil, getD_of h]
structure PtInv (l : List UInt8) (k : Nat) (s : PtS) : Prop where
  is : ptS l k = s
  len : s.out.length = l.length
  ht : hN l k = s.st.length
  stk : ∀ r (_ : r < s.st.length), ∃ j : Nat, s.st[r] = (j : Int) ∧ j < k ∧ hN l j = r ∧ ∀ x, j < x → x ≤ k → r < hN l x
  done : ∀ i, i < k → (∃ j : Nat, s.out.getD i 0 = (j : Int) ∧ Pr l i j) ∨ ((i : Int) ∈ s.st)
theorem PtInv.start (l : List UInt8) : PtInv l 0 ⟨List.replicate l.length 0, []⟩ :=
  ⟨rfl, by simp, rfl, fun r hr => by simp at hr, fun i hi => by omega⟩
theorem PtInv.up {l : List UInt8} {k : Nat} {s : PtS} (h : PtInv l k s) (hd : DyckP l) (hk : k < l.length) (hu : l[k].toNat = 117) : PtInv l (k + 1) ⟨s.out, s.st ++ [(k : Int)]⟩ := by
  have hs := hN_up hd hk hu
  have ht := h.ht
  refine ⟨by rw [ptS_succ hk, h.is]; unfold ptF; rw [if_pos hu], h.len, by rw [hs, ht]; simp, fun r hr => ?_, fun i hi => ?_⟩
  · rw [List.length_append, List.length_singleton] at hr
    rcases Nat.lt_or_ge r s.st.length with hl | hl
    · obtain ⟨j, h1, h2, h3, h4⟩ := h.stk r hl
      refine ⟨j, by rw [List.getElem_append_left hl]; exact h1, by omega, h3, fun x hx1 hx2 => ?_⟩
      rcases Nat.lt_or_ge k x with hx | hx
      · obtain rfl : x = k + 1 := by omega
        omega
      · exact h4 x hx1 hx
    · obtain rfl : r = s.st.length := by omega
      refine ⟨k, by rw [List.getElem_append_right (Nat.le_refl _)]; simp, by omega, ht, fun x hx1 hx2 => ?_⟩
      obtain rfl : x = k + 1 := by omega
      omega
  · rcases Nat.lt_or_ge i k with hl | hl
    · rcases h.done i hl with h1 | h1
      · exact .inl h1
      · exact .inr (List.mem_append_left _ h1)
    · obtain rfl : i = k := by omega
      exact .inr (by simp)
theorem PtInv.top {l : List UInt8} {k : Nat} {s : PtS} (h : PtInv l k s) (hd : DyckP l) (hk : k < l.length) (hu : ¬ l[k].toNat = 117) : ∃ (ys : List Int) (j : Nat), s.st = ys ++ [(j : Int)] ∧ j < k ∧ Arc l j k := by
  have hs := hN_down hd hk hu
  have ht := h.ht
  rcases List.eq_nil_or_concat s.st with e | ⟨ys, x, e⟩
  · rw [e] at ht; exact absurd ht hs.1
  · rw [List.concat_eq_append] at e
    have hlen : s.st.length = ys.length + 1 := by rw [e]; simp
    obtain ⟨j, h1, h2, h3, h4⟩ := h.stk ys.length (by omega)
    have hx : s.st[ys.length]'(by omega) = x := by
      simp only [e]
      rw [List.getElem_append_right (Nat.le_refl _)]; simp
    rw [hx] at h1
    subst h1
    refine ⟨ys, j, e, h2, h2, hk, by omega, fun y hy1 hy2 => ?_⟩
    have := h4 y hy1 hy2
    omega
theorem PtInv.down {l : List UInt8} {k : Nat} {s : PtS} (h : PtInv l k s) (hd : DyckP l) (hk : k < l.length) (hu : ¬ l[k].toNat = 117) {ys : List Int} {j : Nat} (e : s.st = ys ++ [(j : Int)]) (hj : j < k) (ha : Arc l j k) :
    PtInv l (k + 1) ⟨(s.out.set k (j : Int)).set j (k : Int), ys⟩ := by
  have hs := hN_down hd hk hu
  have ht := h.ht
  have hlen : s.st.length = ys.length + 1 := by rw [e]; simp
  have hg : s.st.getLastD 0 = (j : Int) := by rw [e]; simp
  have hdl : s.st.dropLast = ys := by rw [e]; simp
  have hol := h.len
  refine ⟨by rw [ptS_succ hk, h.is]; unfold ptF; rw [if_neg hu, hg, hdl, Int.toNat_natCast], by simpa using hol, by show hN l (k + 1) = ys.length; omega, fun r hr => ?_, fun i hi => ?_⟩
  · obtain ⟨q, h1, h2, h3, h4⟩ := h.stk r (by show r < s.st.length; have : r < ys.length := hr; omega)
    have hr' : r < ys.length := hr
    refine ⟨q, ?_, by omega, h3, fun x hx1 hx2 => ?_⟩
    · rw [← h1]
      simp only [e]
      rw [List.getElem_append_left hr']
    · rcases Nat.lt_or_ge k x with hx | hx
      · obtain rfl : x = k + 1 := by omega
        omega
      · exact h4 x hx1 hx
  · by_cases hij : i = j
    · subst hij
      refine .inl ⟨k, ?_, .inl ha⟩
      have h1 : i < ((s.out.set k (i : Int)).set i (k : Int)).length := by simp; omega
      show ((s.out.set k (i : Int)).set i (k : Int)).getD i 0 = _
      rw [getD_of h1, List.getElem_set_self]
    · by_cases hik : i = k
      · subst hik
        refine .inl ⟨j, ?_, .inr ha⟩
        have h1 : i < ((s.out.set i (j : Int)).set j (i : Int)).length := by simp; omega
        show ((s.out.set i (j : Int)).set j (i : Int)).getD i 0 = _
        rw [getD_of h1, List.getElem_set_ne (fun h => hij h.symm), List.getElem_set_self]
      · have he : ((s.out.set k (j : Int)).set j (k : Int)).getD i 0 = s.out.getD i 0 := by
          simp only [List.getD]
          rw [List.getElem?_set_ne (fun h => hij h.symm), List.getElem?_set_ne (fun h => hik h.symm)]
        rcases h.done i (by omega) with ⟨q, h1, h2⟩ | h1
        · exact .inl ⟨q, he.trans h1, h2⟩
        · rw [e] at h1
          rcases List.mem_append.1 h1 with h1 | h1
          · exact .inr h1
          · have : (i : Int) = (j : Int) := by simpa using h1
            exact absurd (by omega) hij
def prt (l : List UInt8) : List Int := (ptS l l.length).out
def mofR (l : List UInt8) : List Int × Bool := if DyckP l then (prt l, true) else ([], false)
theorem PtInv.all {l : List UInt8} (hd : DyckP l) : ∀ k, k ≤ l.length → PtInv l k (ptS l k) := by
  intro k
  induction k with
  | zero => intro _; exact PtInv.start l
  | succ k ih =>
    intro hk
    have h := ih (by omega)
    rcases Nat.decEq (l[k]'hk).toNat 117 with hu | hu
    · obtain ⟨ys, j, e, hj, ha⟩ := h.top hd hk hu
      have := h.down hd hk hu e hj ha
      rw [this.is]; exact this
    · have := h.up hd hk hu
      rw [this.is]; exact this
theorem prt_len {l : List UInt8} (hd : DyckP l) : (prt l).length = l.length := (PtInv.all hd _ (Nat.le_refl _)).len
theorem prt_at {l : List UInt8} (hd : DyckP l) {i : Nat} (hi : i < l.length) : ∃ j : Nat, (prt l).getD i 0 = (j : Int) ∧ Pr l i j := by
  have h := PtInv.all hd _ (Nat.le_refl _)
  rcases h.done i hi with h1 | h1
  · exact h1
  · have ht := h.ht
    rw [hN_end hd] at ht
    rw [List.eq_nil_of_length_eq_zero ht.symm] at h1
    cases h1
theorem prt_get {l : List UInt8} (hd : DyckP l) {i : Nat} (hi : i < l.length) : ∃ j : Nat, (prt l)[i]'(by rw [prt_len hd]; exact hi) = (j : Int) ∧ Pr l i j := by
  obtain ⟨j, h1, h2⟩ := prt_at hd hi
  exact ⟨j, by rw [← h1, getD_of (by rw [prt_len hd]; exact hi)], h2⟩
end Go.Proofs.Ytnkkgfeegaiakaa

/- Plain words on the partition of a path: blocks by runs of d, taken off a stack or looked up at the partners. No condition. -/
namespace Go.Proofs.Ytnkkgfeegaiakaa
theorem nm_map {f : Int → Int} (hf : ∀ x y, f x = f y → x = y) (l : List Int) : nm (l.map f) = (nm l).map f := by
  have h : ∀ (l acc : List Int), (l.map f).foldl nmStep (acc.map f) = (l.foldl nmStep acc).map f := by
    intro l
    induction l with
    | nil => intro acc; rfl
    | cons x l ih =>
      intro acc
      rw [List.map_cons, List.foldl_cons, List.foldl_cons, ← ih]
      congr 1
      unfold nmStep
      by_cases h : x ∈ acc
      · rw [if_pos h, if_pos (List.mem_map.2 ⟨x, h, rfl⟩)]
      · rw [if_neg h, if_neg]
        · simp
        · intro h2
          obtain ⟨y, hy, e⟩ := List.mem_map.1 h2
          exact h (hf y x e ▸ hy)
  exact h l []
theorem ix_map {f : Int → Int} (hf : ∀ x y, f x = f y → x = y) (l : List Int) (x : Int) : ix (l.map f) (f x) = ix l x := by
  induction l with
  | nil => rfl
  | cons a l ih =>
    rw [List.map_cons]
    simp only [ix]
    by_cases h : a = x
    · rw [if_pos h, if_pos (by rw [h])]
    · rw [if_neg h, if_neg (fun e => h (hf _ _ e)), ih]
theorem rnL_map {f : Int → Int} (hf : ∀ x y, f x = f y → x = y) (l : List Int) : rnL (l.map f) = rnL l := by
  unfold rnL
  rw [nm_map hf, List.map_map]
  apply List.map_congr_left
  intro x _
  simp only [Function.comp]
  rw [ix_map hf]
def isU (l : List UInt8) (x : Nat) : Bool := decide ((l.getD x 0).toNat = 117)
def isD (l : List UInt8) (x : Nat) : Bool := decide ((l.getD x 0).toNat = 100)
/-- the peaks ahead of a place -/
def pkB (l : List UInt8) (x : Nat) : Bool := decide (1 ≤ x) && (isD l x && isU l (x - 1))
def pkN (l : List UInt8) (k : Nat) : Nat := cnt k (pkB l)
def br (l : List UInt8) (k : Nat) : Nat := (decide (0 < k) && (decide (k < l.length) && (isD l (k - 1) && isD l k))).toNat
theorem isU_of {l : List UInt8} {k : Nat} (hk : k < l.length) (hu : l[k].toNat = 117) : isU l k = true := by unfold isU; rw [getD_of hk]; simp [hu]
theorem isD_not {l : List UInt8} {k : Nat} (hk : k < l.length) (hu : l[k].toNat = 117) : isD l k = false := by unfold isD; rw [getD_of hk]; simp [hu]
theorem isD_of {l : List UInt8} {k : Nat} (hd : DyckP l) (hk : k < l.length) (hu : ¬ l[k].toNat = 117) : isD l k = true := by
  unfold isD; rw [getD_of hk]; simpa using (dyck_letter hd hk).resolve_left hu
theorem isU_not {l : List UInt8} {k : Nat} (hk : k < l.length) (hu : ¬ l[k].toNat = 117) : isU l k = false := by unfold isU; rw [getD_of hk]; simpa using hu
theorem isD_isU {l : List UInt8} (hd : DyckP l) {k : Nat} (hk : k < l.length) : isD l k = !isU l k := by
  by_cases hu : l[k].toNat = 117
  · rw [isD_not hk hu, isU_of hk hu]; rfl
  · rw [isD_of hd hk hu, isU_not hk hu]; rfl
/-- the reference's stack -/
def qoF (l : List UInt8) (s : PoS) (i : Nat) : PoS := if (l.getD i 0).toNat = 117 then ⟨s.p, s.st ++ [(s.n : Int)], s.n + 1, s.k⟩ else ⟨s.p.set (s.st.getLastD 0).toNat (s.k : Int), s.st.dropLast, s.n, if i + 1 = l.length ∨ isU l (i + 1) = true then s.k + 1 else s.k⟩
def qoS (l : List UInt8) (k : Nat) : PoS := (List.range k).foldl (qoF l) ⟨List.replicate (l.length / 2) 0, [], 0, 0⟩
theorem qoS_succ (l : List UInt8) (k : Nat) : qoS l (k + 1) = qoF l (qoS l k) k := by simp [qoS, List.range_succ]
theorem cu_take_succ {l : List UInt8} {k : Nat} (hk : k < l.length) : cu (l.take (k + 1)) = cu (l.take k) + (if l[k].toNat = 117 then 1 else 0) := by
  rw [List.take_succ_eq_append_getElem hk, cu_append]
  congr 1
  by_cases h : l[k].toNat = 117 <;> simp [cu, h]
theorem cu_mono {l : List UInt8} : ∀ {i j : Nat}, i ≤ j → j ≤ l.length → cu (l.take i) ≤ cu (l.take j) := by
  intro i j hij
  induction hij with
  | refl => intro _; exact Nat.le_refl _
  | @step m h ih =>
    intro hj
    have := ih (by omega)
    have h2 := cu_take_succ (l := l) (k := m) hj
    show cu (l.take i) ≤ cu (l.take (m + 1))
    omega
theorem cu_lt {l : List UInt8} {i j : Nat} (hij : i < j) (hj : j ≤ l.length) (hu : (l[i]'(by omega)).toNat = 117) : cu (l.take i) < cu (l.take j) := by
  have h1 := cu_mono (l := l) (show i + 1 ≤ j from hij) hj
  have h2 := cu_take_succ (l := l) (k := i) (by omega)
  rw [if_pos hu] at h2
  omega
structure QInv (l : List UInt8) (k : Nat) (s : PoS) (pt : PtS) : Prop where
  is : qoS l k = s
  pi : PtInv l k pt
  len : s.p.length = l.length / 2
  st : s.st = pt.st.map fun j => ((cu (l.take j.toNat) : Nat) : Int)
  cn : s.n = cu (l.take k)
  nx : s.k + br l k = pkN l k
  up : ∀ j ∈ pt.st, ∃ i : Nat, j = (i : Int) ∧ ∃ h : i < l.length, l[i].toNat = 117 ∧ i < k
  done : ∀ i (h : i < l.length), i < k → l[i].toNat = 117 → (∃ j, Pr l i j ∧ j < k ∧ ∃ v : Nat, s.p.getD (cu (l.take i)) 0 = (v : Int) ∧ v + 1 = pkN l (j + 1)) ∨ ((i : Int) ∈ pt.st)
theorem QInv.start (l : List UInt8) : QInv l 0 ⟨List.replicate (l.length / 2) 0, [], 0, 0⟩ ⟨List.replicate l.length 0, []⟩ :=
  ⟨rfl, PtInv.start l, by simp, rfl, by simp [cu], by simp [br, pkN, cnt, sumTo], by simp, fun i h hi => by omega⟩
theorem pkN_succ (l : List UInt8) (k : Nat) : pkN l (k + 1) = pkN l k + (pkB l k).toNat := cnt_succ _ _
theorem QInv.up_ {l : List UInt8} {k : Nat} {s : PoS} {pt : PtS} (h : QInv l k s pt) (hd : DyckP l) (hk : k < l.length) (hu : l[k].toNat = 117) : QInv l (k + 1) ⟨s.p, s.st ++ [(s.n : Int)], s.n + 1, s.k⟩ ⟨pt.out, pt.st ++ [(k : Int)]⟩ := by
  refine ⟨by rw [qoS_succ, h.is]; unfold qoF; rw [getD_of hk, if_pos hu], h.pi.up hd hk hu, h.len, ?_, ?_, ?_, ?_, fun i hi hik hiu => ?_⟩
  · show s.st ++ [(s.n : Int)] = (pt.st ++ [(k : Int)]).map _
    rw [List.map_append, ← h.st]; simp [h.cn]
  · show s.n + 1 = _
    rw [cu_take_succ hk, if_pos hu, h.cn]
  · show s.k + br l (k + 1) = _
    have h1 := h.nx
    have b0 : br l k = 0 := by unfold br; rw [isD_not hk hu]; simp
    have b1 : br l (k + 1) = 0 := by unfold br; rw [show k + 1 - 1 = k from rfl, isD_not hk hu]; simp
    have p1 : pkB l k = false := by unfold pkB; rw [isD_not hk hu]; simp
    rw [pkN_succ, p1]
    simp
    omega
  · intro j hj
    rcases List.mem_append.1 hj with hj | hj
    · obtain ⟨i, h1, h2, h3, h4⟩ := h.up j hj
      exact ⟨i, h1, h2, h3, by omega⟩
    · rw [List.mem_singleton.1 hj]
      exact ⟨k, rfl, hk, hu, by omega⟩
  · rcases Nat.lt_or_ge i k with hl | hl
    · rcases h.done i hi hl hiu with ⟨j, h1, h2, h3⟩ | h1
      · exact .inl ⟨j, h1, by omega, h3⟩
      · exact .inr (List.mem_append_left _ h1)
    · obtain rfl : i = k := by omega
      exact .inr (by simp)
theorem QInv.down_ {l : List UInt8} {k : Nat} {s : PoS} {pt : PtS} (h : QInv l k s pt) (hd : DyckP l) (hk : k < l.length) (hu : ¬ l[k].toNat = 117) {ys : List Int} {j : Nat} (e : pt.st = ys ++ [(j : Int)]) (hj : j < k) (ha : Arc l j k) :
    QInv l (k + 1) ⟨s.p.set (cu (l.take j)) (s.k : Int), s.st.dropLast, s.n, if k + 1 = l.length ∨ isU l (k + 1) = true then s.k + 1 else s.k⟩ ⟨(pt.out.set k (j : Int)).set j (k : Int), ys⟩ := by
  have hst := h.st
  rw [e, List.map_append, List.map_cons, List.map_nil, Int.toNat_natCast] at hst
  have hg : s.st.getLastD 0 = ((cu (l.take j) : Nat) : Int) := by rw [hst]; simp
  have hdl : s.st.dropLast = ys.map fun j => ((cu (l.take j.toNat) : Nat) : Int) := by rw [hst]; simp
  obtain ⟨hjl, hju⟩ := ha.left hd
  have hk0 : 0 < k := by omega
  have hpkk : s.k + 1 = pkN l (k + 1) := by
    have h1 := h.nx
    have hD := isD_isU hd (show k - 1 < l.length by omega)
    have b0 : br l k = (isD l (k - 1)).toNat := by unfold br; rw [isD_of hd hk hu]; simp [hk0, hk]
    have p1 : pkB l k = isU l (k - 1) := by unfold pkB; rw [isD_of hd hk hu]; simp; omega
    rw [pkN_succ, p1]
    rw [b0, hD] at h1
    generalize pkN l k = P at h1 ⊢
    generalize s.k = K at h1 ⊢
    generalize isU l (k - 1) = X at h1 ⊢
    cases X
    · simp only [Bool.not_false, Bool.toNat_true, Bool.toNat_false] at h1 ⊢; omega
    · simp only [Bool.not_true, Bool.toNat_true, Bool.toNat_false] at h1 ⊢; omega
  refine ⟨by rw [qoS_succ, h.is]; unfold qoF; rw [getD_of hk, if_neg hu, hg, Int.toNat_natCast], h.pi.down hd hk hu e hj ha, by simpa using h.len, hdl, ?_, ?_, ?_, fun i hi hik hiu => ?_⟩
  · show s.n = _
    rw [cu_take_succ hk, if_neg hu, h.cn]; rfl
  · show (if k + 1 = l.length ∨ isU l (k + 1) = true then s.k + 1 else s.k) + br l (k + 1) = _
    rw [← hpkk]
    have hDk := isD_of hd hk hu
    by_cases h1 : k + 1 = l.length
    · rw [if_pos (.inl h1)]
      have : br l (k + 1) = 0 := by unfold br; rw [decide_eq_false (show ¬ k + 1 < l.length by omega)]; simp
      omega
    · have hk1 : k + 1 < l.length := by omega
      have hD1 := isD_isU hd hk1
      have hb : br l (k + 1) = (isD l (k + 1)).toNat := by unfold br; rw [show k + 1 - 1 = k from rfl, hDk]; simp [hk1]
      rw [hb, hD1]
      by_cases h2 : isU l (k + 1) = true
      · rw [if_pos (.inr h2), h2]; rfl
      · rw [if_neg (by simp [h1, h2])]
        have : isU l (k + 1) = false := by simpa using h2
        rw [this]; rfl
  · intro x hx
    obtain ⟨i, h1, h2, h3, h4⟩ := h.up x (by rw [e]; exact List.mem_append_left _ hx)
    exact ⟨i, h1, h2, h3, by omega⟩
  · have hcl : cu (l.take j) < s.p.length := by
      rw [h.len]
      have h1 := cu_lt (l := l) hjl (Nat.le_refl _) hju
      have h2 := dyck_half hd
      rw [List.take_length] at h1
      omega
    have hik' : i ≠ k := fun e => hu (by subst e; exact hiu)
    by_cases hij : i = j
    · subst hij
      refine .inl ⟨k, .inl ha, by omega, s.k, ?_, hpkk⟩
      show (s.p.set (cu (l.take i)) (s.k : Int)).getD _ 0 = _
      rw [getD_of (by rw [List.length_set]; exact hcl), List.getElem_set_self]
    · have hne : cu (l.take j) ≠ cu (l.take i) := by
        rcases Nat.lt_or_ge i j with h1 | h1
        · have := cu_lt (l := l) h1 (by omega) hiu; omega
        · have := cu_lt (l := l) (show j < i by omega) (by omega) hju; omega
      have he : (s.p.set (cu (l.take j)) (s.k : Int)).getD (cu (l.take i)) 0 = s.p.getD (cu (l.take i)) 0 := by
        simp only [List.getD]
        rw [List.getElem?_set_ne hne]
      rcases h.done i hi (by omega) hiu with ⟨q, h1, h2, v, h3, h4⟩ | h1
      · exact .inl ⟨q, h1, by omega, v, he.trans h3, h4⟩
      · rw [e] at h1
        rcases List.mem_append.1 h1 with h1 | h1
        · exact .inr h1
        · have : (i : Int) = (j : Int) := by simpa using h1
          exact absurd (by omega) hij
theorem QInv.all {l : List UInt8} (hd : DyckP l) : ∀ k, k ≤ l.length → ∃ pt, QInv l k (qoS l k) pt := by
  intro k
  induction k with
  | zero => intro _; exact ⟨_, QInv.start l⟩
  | succ k ih =>
    intro hk
    obtain ⟨pt, h⟩ := ih (by omega)
    rcases Nat.decEq (l[k]'hk).toNat 117 with hu | hu
    · obtain ⟨ys, j, e, hj, ha⟩ := h.pi.top hd hk hu
      have := h.down_ hd hk hu e hj ha
      exact ⟨_, by rw [this.is]; exact this⟩
    · have := h.up_ hd hk hu
      exact ⟨_, by rw [this.is]; exact this⟩
theorem Pr.uniq {l : List UInt8} (hd : DyckP l) {i j j' : Nat} (h : Pr l i j) (h' : Pr l i j') : j = j' := by
  rcases h with h | h
  · obtain ⟨hi, hu⟩ := h.left hd
    rcases h' with h' | h'
    · rcases Nat.lt_trichotomy j j' with q | q | q
      · have := h'.2.2.2 (j + 1) (by have := h.1; omega) (by omega)
        have := h.2.2.1
        omega
      · exact q
      · have := h.2.2.2 (j' + 1) (by have := h'.1; omega) (by omega)
        have := h'.2.2.1
        omega
    · obtain ⟨_, hu'⟩ := h'.right hd
      exact absurd hu hu'
  · obtain ⟨hi, hu⟩ := h.right hd
    rcases h' with h' | h'
    · obtain ⟨_, hu'⟩ := h'.left hd
      exact absurd hu' hu
    · rcases Nat.lt_trichotomy j j' with q | q | q
      · have h1 := h.2.2.2 j' q (by have := h'.1; omega)
        have := h.2.2.1
        have := h'.2.2.1
        omega
      · exact q
      · have h1 := h'.2.2.2 j q (by have := h.1; omega)
        have := h.2.2.1
        have := h'.2.2.1
        omega
/-- the program's list -/
def iL (l : List UInt8) (k : Nat) : List Int := (List.range k).flatMap fun i => if isU l i = true then [((pkN l (((prt l).getD i 0).toNat + 1) : Nat) : Int)] else []
theorem iL_succ (l : List UInt8) (k : Nat) : iL l (k + 1) = iL l k ++ (if isU l k = true then [((pkN l (((prt l).getD k 0).toNat + 1) : Nat) : Int)] else []) := by simp [iL, List.range_succ]
theorem iL_is {l : List UInt8} (hd : DyckP l) : ∀ k, k ≤ l.length → iL l k = ((qoS l l.length).p.map (fun x => x + 1)).take (cu (l.take k)) := by
  obtain ⟨pt, h⟩ := QInv.all hd l.length (Nat.le_refl _)
  have hlen := h.len
  have hfin : pt.st = [] := by
    have := h.pi.ht
    rw [hN_end hd] at this
    exact List.eq_nil_of_length_eq_zero this.symm
  have hhalf := dyck_half hd
  intro k
  induction k with
  | zero => intro _; simp [iL, cu]
  | succ k ih =>
    intro hk
    rw [iL_succ, ih (by omega), cu_take_succ hk]
    by_cases hu : (l[k]'hk).toNat = 117
    · rw [if_pos (isU_of hk hu), if_pos hu]
      have hcl := cu_lt (l := l) hk (Nat.le_refl _) hu
      rw [List.take_length] at hcl
      have hcl2 : cu (l.take k) < ((qoS l l.length).p.map (fun x => x + 1)).length := by rw [List.length_map, hlen]; omega
      rw [List.take_succ_eq_append_getElem hcl2]
      congr 2
      rcases h.done k hk hk hu with ⟨j, h1, h2, v, h3, h4⟩ | h1
      · obtain ⟨j', h5, h6⟩ := prt_at hd hk
        have := h1.uniq hd h6
        subst this
        rw [h5, Int.toNat_natCast, ← h4, List.getElem_map]
        rw [getD_of (by rw [List.length_map] at hcl2; exact hcl2)] at h3
        rw [h3]; simp
      · rw [hfin] at h1; cases h1
    · rw [if_neg (by rw [isU_not hk hu]; simp), if_neg hu]; simp
theorem iL_all {l : List UInt8} (hd : DyckP l) : iL l l.length = (qoS l l.length).p.map (fun x => x + 1) := by
  obtain ⟨pt, h⟩ := QInv.all hd l.length (Nat.le_refl _)
  have hhalf := dyck_half hd
  rw [iL_is hd _ (Nat.le_refl _), List.take_length, List.take_of_length_le]
  rw [List.length_map, h.len]; omega
def parR (l : List UInt8) : List Int × Bool := if DyckP l then (rnL (qoS l l.length).p, true) else ([], false)
theorem parR_impl {l : List UInt8} (hd : DyckP l) : rnR (iL l l.length) = (rnL (qoS l l.length).p, true) := by
  obtain ⟨pt, h⟩ := QInv.all hd l.length (Nat.le_refl _)
  rw [iL_all hd]
  unfold rnR
  rw [if_pos, rnL_map (fun x y e => by omega)]
  rw [List.length_map, h.len]
  have := hd.1
  omega
/-- the numbers of peaks, as the program lays them down -/
def rl (l : List UInt8) (k : Nat) : List Int := (List.range l.length).map fun i => if i < k then ((pkN l (i + 1) : Nat) : Int) else 0
theorem rl_len (l : List UInt8) (k : Nat) : (rl l k).length = l.length := by simp [rl]
theorem pkN_one (l : List UInt8) : pkN l 1 = 0 := by simp [pkN, cnt, sumTo, pkB]
theorem rl_one (l : List UInt8) : rl l 1 = List.replicate l.length 0 := by
  apply List.ext_getElem
  · simp [rl]
  · intro i h1 h2
    simp only [rl, List.getElem_map, List.getElem_range, List.getElem_replicate]
    split
    · rw [show i = 0 by omega, pkN_one]; rfl
    · rfl
theorem rl_set (l : List UInt8) (k : Nat) : (rl l k).set k ((pkN l (k + 1) : Nat) : Int) = rl l (k + 1) := by
  apply List.ext_getElem
  · simp [rl]
  · intro i h1 h2
    rw [List.getElem_set]
    simp only [rl, List.getElem_map, List.getElem_range]
    by_cases e : k = i
    · subst e; simp
    · rw [if_neg e]
      by_cases h : i < k
      · rw [if_pos h, if_pos (by omega)]
      · rw [if_neg h, if_neg (by omega)]
theorem rl_get {l : List UInt8} {k i : Nat} (hi : i < l.length) (hk : i < k) : (rl l k)[i]'(by rw [rl_len]; exact hi) = ((pkN l (i + 1) : Nat) : Int) := by
  simp [rl, hk]
theorem pkN_le (l : List UInt8) (k : Nat) : pkN l k ≤ k := cnt_le _ _
theorem pkB_eq {l : List UInt8} {k : Nat} (h1 : 1 ≤ k) (hk : k < l.length) : pkB l k = (decide (l[k].toNat = 100) && decide ((l[k - 1]'(by omega)).toNat = 117)) := by
  unfold pkB isD isU
  rw [getD_of hk, getD_of (show k - 1 < l.length by omega)]
  simp [h1]
end Go.Proofs.Ytnkkgfeegaiakaa

/- Plain words on blocks: the fold that gathers them. No condition. -/
namespace Go.Proofs.Ytnkkgfeegaiakaa
def grow1 (out : List (List Int)) (b : Int) : List (List Int) := if b = (out.length : Int) then out ++ [[]] else out
def bkStep (out : List (List Int)) (i : Nat) (b : Int) : List (List Int) := (grow1 out b).set b.toNat ((grow1 out b).getD b.toNat [] ++ [(i : Int)])
def bks (p : List Int) (k : Nat) : List (List Int) := (List.range k).foldl (fun out i => bkStep out i (p.getD i 0)) []
theorem bks_zero (p : List Int) : bks p 0 = [] := rfl
theorem bks_succ (p : List Int) (k : Nat) : bks p (k + 1) = bkStep (bks p k) k (p.getD k 0) := by simp [bks, List.range_succ]
def blocksR (p : List Int) : List (List Int) := if PartP p then bks p p.length else []
theorem bks_len {p : List Int} (hp : PartP p) : ∀ k, k ≤ p.length → ((bks p k).length : Int) = nextOf p k := by
  intro k
  induction k with
  | zero => intro _; rfl
  | succ k ih =>
    intro hk
    have h1 := ih (by omega)
    have h2 := hp.2 k (by omega)
    unfold PartOk at h2
    rw [nextOf_succ p k (by omega), bks_succ, bkStep, List.length_set, grow1]
    rw [getD_of (show k < p.length from by omega)] at h2 ⊢
    by_cases h : p[k] = ((bks p k).length : Int)
    · rw [if_pos h, List.length_append, List.length_singleton]; omega
    · rw [if_neg h]; omega
theorem nextOf_le_k (p : List Int) : PartP p → ∀ k, k ≤ p.length → nextOf p k ≤ k := by
  intro hp k
  induction k with
  | zero => intro _; exact Int.le_refl _
  | succ k ih =>
    intro hk
    have h1 := ih (by omega)
    have h2 := hp.2 k (by omega)
    unfold PartOk at h2
    rw [getD_of (show k < p.length from by omega)] at h2
    rw [nextOf_succ p k (by omega)]
    omega
theorem bks_facts {p : List Int} (hp : PartP p) {k : Nat} (hk : k < p.length) : 0 ≤ p[k] ∧ p[k] ≤ ((bks p k).length : Int) ∧ (bks p k).length ≤ k := by
  have h1 := bks_len hp k (by omega)
  have h2 := hp.2 k hk
  have h3 := nextOf_le_k p hp k (by omega)
  unfold PartOk at h2
  rw [getD_of hk] at h2
  omega
theorem getD_set_ne {l : List (List Int)} {i j : Nat} {y : List Int} (h : i ≠ j) : (l.set j y).getD i [] = l.getD i [] := by simp [List.getD, List.getElem?_set_ne (Ne.symm h)]
theorem getD_set_eq {l : List (List Int)} {j : Nat} {y : List Int} (h : j < l.length) : (l.set j y).getD j [] = y := by simp [List.getD, h]
theorem bks_rows (p : List Int) : ∀ k b, ((bks p k).getD b []).length ≤ k := by
  intro k
  induction k with
  | zero => intro b; simp [bks_zero]
  | succ k ih =>
    intro b
    rw [bks_succ, bkStep]
    have hg : ∀ b, ((grow1 (bks p k) (p.getD k 0)).getD b []).length ≤ k := by
      intro b
      unfold grow1
      by_cases h : p.getD k 0 = ((bks p k).length : Int)
      · rw [if_pos h]
        rcases Nat.lt_or_ge b (bks p k).length with h1 | h1
        · have := ih b
          simpa [List.getD, List.getElem?_append_left h1] using this
        · rcases Nat.eq_or_lt_of_le h1 with h2 | h2
          · subst h2; simp [List.getD]
          · rw [List.getD, List.getElem?_eq_none (by simp; omega)]; simp
      · rw [if_neg h]; exact ih b
    by_cases e : b = (p.getD k 0).toNat
    · subst e
      have h1 := hg (p.getD k 0).toNat
      generalize grow1 (bks p k) (p.getD k 0) = o at h1 ⊢
      rcases Nat.lt_or_ge (p.getD k 0).toNat o.length with h2 | h2
      · generalize (p.getD k 0).toNat = q at h1 h2 ⊢
        have : (o.set q (o.getD q [] ++ [(k : Int)])).getD q [] = o.getD q [] ++ [(k : Int)] := by simp [List.getD, h2]
        rw [this, List.length_append, List.length_singleton]; omega
      · rw [List.getD, List.getElem?_eq_none (by simp; exact h2)]; simp
    · have h1 := hg b
      generalize grow1 (bks p k) (p.getD k 0) = o at h1 ⊢
      rw [getD_set_ne e]; omega
end Go.Proofs.Ytnkkgfeegaiakaa

/- Plain words on partitions that do not nest. No condition. -/
namespace Go.Proofs.Ytnkkgfeegaiakaa
/-- the next element of the same block, or -1 -/
def nx (p : List Int) (i : Nat) : Int := match (List.range p.length).find? (fun k => decide (i < k) && decide (p.getD k 0 = p.getD i 0)) with | some k => (k : Int) | none => -1
theorem nx_some {p : List Int} {i k : Nat} (h1 : i < k) (h2 : k < p.length) (h3 : p.getD k 0 = p.getD i 0) (h4 : ∀ j, i < j → j < k → p.getD j 0 ≠ p.getD i 0) : nx p i = (k : Int) := by
  unfold nx
  have : (List.range p.length).find? (fun k => decide (i < k) && decide (p.getD k 0 = p.getD i 0)) = some k := by
    rw [List.find?_range_eq_some]
    refine ⟨by rw [decide_eq_true h1, decide_eq_true h3]; rfl, by simpa using h2, fun j hj => ?_⟩
    rcases Nat.lt_or_ge i j with h | h
    · have := h4 j h hj
      simp only [h, decide_true, Bool.true_and, this, decide_false, Bool.not_false]
    · simp [show ¬ i < j from by omega]
  rw [this]
theorem nx_none {p : List Int} {i : Nat} (h4 : ∀ j, i < j → j < p.length → p.getD j 0 ≠ p.getD i 0) : nx p i = -1 := by
  unfold nx
  have : (List.range p.length).find? (fun k => decide (i < k) && decide (p.getD k 0 = p.getD i 0)) = none := by
    rw [List.find?_range_eq_none]
    intro j hj
    rcases Nat.lt_or_ge i j with h | h
    · have := h4 j h hj
      simp only [h, decide_true, Bool.true_and, this, decide_false, Bool.not_false]
    · simp [show ¬ i < j from by omega]
  rw [this]
theorem nx_ge (p : List Int) (i : Nat) : -1 ≤ nx p i ∧ nx p i ≤ p.length := by
  unfold nx
  split
  · rename_i k h
    have := List.mem_range.1 (List.mem_of_find?_eq_some h)
    omega
  · omega
def nnAt (p : List Int) (a b : Nat) : Bool := decide (a < b) && (decide (0 ≤ nx p b) && decide (nx p b < nx p a))
def nnI (p : List Int) : Bool := allB p.length fun a => allB p.length fun b => !nnAt p a b
/-- the arcs of a row, of rows -/
def arcRow (r : List Int) (k : Nat) : List (List Int) := (List.range (k - 1)).map fun j => [r.getD j 0, r.getD (j + 1) 0]
def arcsL (bl : List (List Int)) : Nat → List (List Int)
  | 0 => []
  | i + 1 => arcsL bl i ++ arcRow (bl.getD i []) (bl.getD i []).length
def nestA (x y : List Int) : Bool := decide (x.getD 0 0 < y.getD 0 0) && decide (y.getD 1 0 < x.getD 1 0)
def nnS (zs : List (List Int)) : Bool := zs.all fun x => zs.all fun y => !nestA x y
def arcsOf (p : List Int) : List (List Int) := arcsL (bks p p.length) (bks p p.length).length
theorem nx_inv {p : List Int} {i : Nat} (h : 0 ≤ nx p i) : ∃ k : Nat, nx p i = (k : Int) ∧ i < k ∧ k < p.length ∧ p.getD k 0 = p.getD i 0 ∧ ∀ j, i < j → j < k → p.getD j 0 ≠ p.getD i 0 := by
  cases hf : (List.range p.length).find? (fun k => decide (i < k) && decide (p.getD k 0 = p.getD i 0)) with
  | none => unfold nx at h; rw [hf] at h; simp at h
  | some k =>
    have hk : nx p i = (k : Int) := by unfold nx; rw [hf]
    rw [List.find?_range_eq_some] at hf
    obtain ⟨h1, h2, h3⟩ := hf
    rw [Bool.and_eq_true, decide_eq_true_eq, decide_eq_true_eq] at h1
    refine ⟨k, hk, h1.1, by simpa using h2, h1.2, fun j hj1 hj2 e => ?_⟩
    have := h3 j hj2
    rw [decide_eq_true hj1, decide_eq_true e] at this
    simp at this
/-- the elements of a block, in order -/
def fltN (p : List Int) (k y : Nat) : List Nat := (List.range k).filter fun i => decide (p.getD i 0 = (y : Int))
def flt (p : List Int) (k y : Nat) : List Int := (fltN p k y).map fun (i : Nat) => (i : Int)
theorem getD_grow1 (out : List (List Int)) (b : Int) (y : Nat) : (grow1 out b).getD y [] = out.getD y [] := by
  unfold grow1
  by_cases h : b = (out.length : Int)
  · rw [if_pos h]
    rcases Nat.lt_or_ge y out.length with h1 | h1
    · simp [List.getD, List.getElem?_append_left h1]
    · rcases Nat.eq_or_lt_of_le h1 with h2 | h2
      · subst h2; simp [List.getD]
      · rw [List.getD, List.getElem?_eq_none (by simp; omega), List.getD, List.getElem?_eq_none (by omega)]
  · rw [if_neg h]
theorem bks_row {p : List Int} (hp : PartP p) : ∀ k, k ≤ p.length → ∀ y, (bks p k).getD y [] = flt p k y := by
  intro k
  induction k with
  | zero => intro _ y; simp [bks_zero, flt, fltN]
  | succ k ih =>
    intro hk y
    have h1 := ih (by omega)
    obtain ⟨f0, f1, f2⟩ := bks_facts hp (show k < p.length from by omega)
    have hg : p.getD k 0 = p[k] := getD_of (by omega) 0
    rw [bks_succ, hg, bkStep]
    have hfl : flt p (k + 1) y = flt p k y ++ (if p[k] = (y : Int) then [(k : Int)] else []) := by
      unfold flt fltN
      rw [List.range_succ, List.filter_append, List.map_append]
      congr 1
      by_cases e : p[k] = (y : Int)
      · rw [if_pos e, List.filter_cons_of_pos (by rw [hg]; simpa using e)]; rfl
      · rw [if_neg e, List.filter_cons_of_neg (by rw [hg]; simpa using e)]; rfl
    have hlen : p[k].toNat < (grow1 (bks p k) p[k]).length := by
      unfold grow1
      by_cases e : p[k] = ((bks p k).length : Int)
      · rw [if_pos e]; simp; omega
      · rw [if_neg e]; omega
    rw [hfl]
    by_cases e : y = p[k].toNat
    · have e' : p[k] = (y : Int) := by omega
      rw [if_pos e', e, getD_set_eq hlen, getD_grow1, h1]
    · have e' : ¬ p[k] = (y : Int) := by omega
      rw [if_neg e', getD_set_ne e, getD_grow1, h1, List.append_nil]
theorem fltN_mem {p : List Int} {k y i : Nat} : i ∈ fltN p k y ↔ i < k ∧ p.getD i 0 = (y : Int) := by simp [fltN]
theorem fltN_lt {p : List Int} {k y i j : Nat} (hij : i < j) (hj : j < (fltN p k y).length) : (fltN p k y)[i] < (fltN p k y)[j] := by
  have : (fltN p k y).Pairwise (· < ·) := List.Pairwise.filter _ List.pairwise_lt_range
  exact List.pairwise_iff_getElem.1 this i j (by omega) hj hij
theorem fltN_le {p : List Int} {k y i j : Nat} (hij : i ≤ j) (hj : j < (fltN p k y).length) : (fltN p k y)[i] ≤ (fltN p k y)[j] := by
  rcases Nat.lt_or_ge i j with h | h
  · exact Nat.le_of_lt (fltN_lt h hj)
  · have : i = j := by omega
    subst this; exact Nat.le_refl _
theorem flt_len (p : List Int) (k y : Nat) : (flt p k y).length = (fltN p k y).length := by simp [flt]
theorem flt_get {p : List Int} {k y j : Nat} (h : j < (fltN p k y).length) : (flt p k y).getD j 0 = (((fltN p k y)[j] : Nat) : Int) := by
  rw [getD_of (by rw [flt_len]; exact h)]; simp [flt]
theorem arcRow_mem {r : List Int} {x : List Int} : x ∈ arcRow r r.length ↔ ∃ j, j + 1 < r.length ∧ x = [r.getD j 0, r.getD (j + 1) 0] := by
  unfold arcRow
  rw [List.mem_map]
  constructor
  · rintro ⟨j, hj, e⟩
    exact ⟨j, by have := List.mem_range.1 hj; omega, e.symm⟩
  · rintro ⟨j, hj, e⟩
    exact ⟨j, List.mem_range.2 (by omega), e.symm⟩
theorem arcsL_mem {bl : List (List Int)} {x : List Int} : ∀ i, x ∈ arcsL bl i ↔ ∃ y, y < i ∧ x ∈ arcRow (bl.getD y []) (bl.getD y []).length := by
  intro i
  induction i with
  | zero => simp [arcsL]
  | succ i ih =>
    rw [arcsL, List.mem_append, ih]
    constructor
    · rintro (⟨y, h1, h2⟩ | h)
      · exact ⟨y, by omega, h2⟩
      · exact ⟨i, by omega, h⟩
    · rintro ⟨y, h1, h2⟩
      by_cases e : y = i
      · subst e; exact .inr h2
      · exact .inl ⟨y, by omega, h2⟩
theorem arcs_from {p : List Int} (hp : PartP p) {x : List Int} (h : x ∈ arcsOf p) : ∃ a : Nat, a < p.length ∧ 0 ≤ nx p a ∧ x = [(a : Int), nx p a] := by
  obtain ⟨y, _, h2⟩ := (arcsL_mem _).1 h
  rw [bks_row hp _ (Nat.le_refl _)] at h2
  obtain ⟨j, hj, e⟩ := arcRow_mem.1 h2
  rw [flt_len] at hj
  rw [flt_get (by omega), flt_get hj] at e
  obtain ⟨a1, a2⟩ := fltN_mem.1 (List.getElem_mem (show j < (fltN p p.length y).length from by omega))
  obtain ⟨c1, c2⟩ := fltN_mem.1 (List.getElem_mem hj)
  have hlt := fltN_lt (Nat.lt_succ_self j) hj
  have hnx : nx p (fltN p p.length y)[j] = (((fltN p p.length y)[j + 1] : Nat) : Int) := by
    refine nx_some hlt c1 (by rw [c2, a2]) fun m h1 h2 he => ?_
    have hm : m ∈ fltN p p.length y := fltN_mem.2 ⟨by omega, by rw [he, a2]⟩
    obtain ⟨q, hq, e2⟩ := List.getElem_of_mem hm
    rcases Nat.lt_or_ge j q with h3 | h3
    · have := fltN_le (show j + 1 ≤ q from h3) hq
      omega
    · have := fltN_le h3 (show j < (fltN p p.length y).length from by omega)
      omega
  exact ⟨_, a1, by rw [hnx]; omega, by rw [hnx]; exact e⟩
theorem arcs_to {p : List Int} (hp : PartP p) {a : Nat} (ha : a < p.length) (h : 0 ≤ nx p a) : [(a : Int), nx p a] ∈ arcsOf p := by
  obtain ⟨k, hk, h1, h2, h3, h4⟩ := nx_inv h
  obtain ⟨f0, f1, _⟩ := bks_facts hp ha
  have hga : p.getD a 0 = p[a] := getD_of ha 0
  obtain ⟨y, hy⟩ : ∃ y : Nat, p.getD a 0 = (y : Int) := ⟨p[a].toNat, by rw [hga]; omega⟩
  have hma : a ∈ fltN p p.length y := fltN_mem.2 ⟨ha, hy⟩
  have hmk : k ∈ fltN p p.length y := fltN_mem.2 ⟨h2, by rw [h3, hy]⟩
  obtain ⟨j, hj, e1⟩ := List.getElem_of_mem hma
  obtain ⟨q, hq, e2⟩ := List.getElem_of_mem hmk
  have hjq : j < q := by
    rcases Nat.lt_or_ge j q with h | h
    · exact h
    · have := fltN_le h hj; omega
  have hq1 : q = j + 1 := by
    rcases Nat.lt_or_ge (j + 1) q with h | h
    · have g1 := fltN_lt h hq
      have g2 := fltN_lt (Nat.lt_succ_self j) (show j + 1 < (fltN p p.length y).length from by omega)
      have g3 := (fltN_mem.1 (List.getElem_mem (show j + 1 < (fltN p p.length y).length from by omega))).2
      exact absurd (g3.trans hy.symm) (h4 _ (Nat.lt_of_le_of_lt (Nat.le_of_eq e1.symm) g2) (Nat.lt_of_lt_of_eq g1 e2))
    · omega
  subst hq1
  have hyl : y < (bks p p.length).length := by
    rcases Nat.lt_or_ge y (bks p p.length).length with h | h
    · exact h
    · have g := bks_row hp p.length (Nat.le_refl _) y
      rw [List.getD, List.getElem?_eq_none h] at g
      have : (flt p p.length y).length = 0 := by rw [← g]; rfl
      rw [flt_len] at this
      omega
  refine (arcsL_mem _).2 ⟨y, hyl, ?_⟩
  rw [bks_row hp _ (Nat.le_refl _)]
  refine arcRow_mem.2 ⟨j, by rw [flt_len]; exact hq, ?_⟩
  rw [flt_get hj, flt_get hq, e1, e2, hk]
theorem nnS_iff {zs : List (List Int)} : nnS zs = true ↔ ∀ x ∈ zs, ∀ y ∈ zs, nestA x y = false := by simp [nnS]
theorem nnI_iff {p : List Int} : nnI p = true ↔ ∀ a, a < p.length → ∀ b, b < p.length → nnAt p a b = false := by simp [nnI, allB_iff]
theorem nn_eq {p : List Int} (hp : PartP p) : nnS (arcsOf p) = nnI p := by
  rw [Bool.eq_iff_iff, nnS_iff, nnI_iff]
  constructor
  · intro h a ha b hb
    cases hn : nnAt p a b with
    | false => rfl
    | true =>
      unfold nnAt at hn
      rw [Bool.and_eq_true, Bool.and_eq_true, decide_eq_true_eq, decide_eq_true_eq, decide_eq_true_eq] at hn
      obtain ⟨h1, h2, h3⟩ := hn
      have := h _ (arcs_to hp ha (by omega)) _ (arcs_to hp hb h2)
      simp [nestA] at this
      have := this h1
      omega
  · intro h x hx y hy
    obtain ⟨a, ha, ha2, rfl⟩ := arcs_from hp hx
    obtain ⟨b, hb, hb2, rfl⟩ := arcs_from hp hy
    have := h a ha b hb
    cases hn : nestA [(a : Int), nx p a] [(b : Int), nx p b] with
    | false => rfl
    | true =>
      simp [nestA] at hn
      simp [nnAt] at this
      have := this hn.1 hb2
      omega
def NnP (p : List Int) : Prop := PartP p ∧ nnI p = true
instance (p : List Int) : Decidable (NnP p) := by unfold NnP; exact inferInstance
end Go.Proofs.Ytnkkgfeegaiakaa

/- Plain words on the path of a partition: a block's letters d behind its last element. No condition. -/
namespace Go.Proofs.Ytnkkgfeegaiakaa
def rwP (p : List Int) (i : Nat) : List Int := (bks p p.length).getD (p.getD i 0).toNat []
def ppaStep (p : List Int) (i : Nat) : List UInt8 := 117 :: (if (rwP p i).getD ((rwP p i).length - 1) 0 = (i : Int) then List.replicate (rwP p i).length 100 else [])
def ppaL (p : List Int) (k : Nat) : List UInt8 := (List.range k).flatMap (ppaStep p)
def ppaR (p : List Int) : List UInt8 × Bool := if NonP p then (ppaL p p.length, true) else ([], false)
theorem ppaL_succ (p : List Int) (k : Nat) : ppaL p (k + 1) = ppaL p k ++ ppaStep p k := by simp [ppaL, List.range_succ]
theorem rwP_len (p : List Int) (i : Nat) : (rwP p i).length ≤ p.length := bks_rows p p.length _
theorem ppaL_len (p : List Int) (k : Nat) : (ppaL p k).length ≤ k * (p.length + 1) := by
  induction k with
  | zero => simp [ppaL]
  | succ k ih =>
    rw [ppaL_succ, List.length_append, Nat.succ_mul]
    have h : (ppaStep p k).length ≤ p.length + 1 := by
      unfold ppaStep
      rw [List.length_cons]
      split
      · rw [List.length_replicate]; have := rwP_len p k; omega
      · simp
    omega
theorem nextOf_mono (p : List Int) : ∀ {i j : Nat}, i ≤ j → j ≤ p.length → nextOf p i ≤ nextOf p j := by
  intro i j hij
  induction hij with
  | refl => intro _; exact Int.le_refl _
  | @step m h ih =>
    intro hj
    have h1 := nextOf_succ p m hj
    have h2 := ih (by omega)
    show nextOf p i ≤ nextOf p (m + 1)
    rw [h1]
    omega
theorem rwP_facts {p : List Int} (hp : PartP p) {i : Nat} (hi : i < p.length) : ∃ y : Nat, p[i] = (y : Int) ∧ y < (bks p p.length).length ∧ rwP p i = (bks p p.length).getD y [] ∧ 0 < (rwP p i).length := by
  have h1 := (hp.2 i hi).1
  rw [getD_of hi] at h1
  have h2 := nextOf_succ p i hi
  have h3 := nextOf_mono p (show i + 1 ≤ p.length from hi) (Nat.le_refl _)
  have h4 := bks_len hp p.length (Nat.le_refl _)
  obtain ⟨y, hy⟩ : ∃ y : Nat, p[i] = (y : Int) := ⟨p[i].toNat, by omega⟩
  have he : rwP p i = (bks p p.length).getD y [] := by unfold rwP; rw [getD_of hi, hy, Int.toNat_natCast]
  refine ⟨y, hy, by omega, he, ?_⟩
  rw [he, bks_row hp p.length (Nat.le_refl _), flt_len]
  exact List.length_pos_of_mem (fltN_mem.2 ⟨hi, by rw [getD_of hi, hy]⟩)
end Go.Proofs.Ytnkkgfeegaiakaa

/- Plain words on the matching of a partition: each element's place behind it is joined with that ahead of the next one in its block. No condition. -/
namespace Go.Proofs.Ytnkkgfeegaiakaa
def mstep (o : List Int) (i j : Int) : List Int := (o.set (2 * i + 1).toNat (2 * j)).set (2 * j).toNat (2 * i + 1)
def mrow (o r : List Int) (k : Nat) : List Int := (List.range k).foldl (fun o k => mstep o (r.getD k 0) (r.getD ((k + 1) % r.length) 0)) o
def mall (o : List Int) (R : List (List Int)) (y : Nat) : List Int := (List.range y).foldl (fun o y => mrow o (R.getD y []) (R.getD y []).length) o
theorem mrow_zero (o r : List Int) : mrow o r 0 = o := rfl
theorem mrow_succ (o r : List Int) (k : Nat) : mrow o r (k + 1) = mstep (mrow o r k) (r.getD k 0) (r.getD ((k + 1) % r.length) 0) := by simp [mrow, List.range_succ]
theorem mall_succ (o : List Int) (R : List (List Int)) (y : Nat) : mall o R (y + 1) = mrow (mall o R y) (R.getD y []) (R.getD y []).length := by simp [mall, List.range_succ]
theorem mstep_len (o : List Int) (i j : Int) : (mstep o i j).length = o.length := by simp [mstep]
theorem mrow_len (o r : List Int) (k : Nat) : (mrow o r k).length = o.length := by
  induction k with
  | zero => rfl
  | succ k ih => rw [mrow_succ, mstep_len, ih]
theorem mall_len (o : List Int) (R : List (List Int)) (y : Nat) : (mall o R y).length = o.length := by
  induction y with
  | zero => rfl
  | succ y ih => rw [mall_succ, mrow_len, ih]
def mopR (p : List Int) : List Int × Bool := if NonP p then (mall (List.replicate (2 * p.length) 0) (bks p p.length) (bks p p.length).length, true) else ([], false)
/-- what stands in a block -/
def RowsIn (n : Nat) (R : List (List Int)) : Prop := R.length ≤ 8 ∧ ∀ y (_ : y < R.length), R[y].length ≤ 8 ∧ ∀ j (_ : j < R[y].length), ∃ i : Nat, R[y][j] = (i : Int) ∧ i < n
theorem bks_rowsIn {p : List Int} (hp : PartP p) : RowsIn p.length (bks p p.length) := by
  have h1 := bks_len hp p.length (Nat.le_refl _)
  have h2 := nextOf_le_k p hp p.length (Nat.le_refl _)
  have h8 := hp.1
  refine ⟨by omega, fun y hy => ?_⟩
  have e : (bks p p.length)[y] = flt p p.length y := by rw [← bks_row hp p.length (Nat.le_refl _) y, getD_of hy]
  have hl := bks_rows p p.length y
  rw [getD_of hy] at hl
  refine ⟨by omega, fun j hj => ?_⟩
  have hj' : j < (fltN p p.length y).length := by rw [e, flt_len] at hj; exact hj
  refine ⟨(fltN p p.length y)[j], ?_, (fltN_mem.1 (List.getElem_mem hj')).1⟩
  have := flt_get hj'
  rw [← this]
  simp only [e]
  rw [getD_of]
end Go.Proofs.Ytnkkgfeegaiakaa

/- Contracts of IsDyck and heights: whether a word is a path, and the heights at its places. No condition but the word's size. -/
namespace Go.Proofs.Ytnkkgfeegaiakaa
open Go.RowKit
theorem specIsDyck_any (s : ByteArray) (w : World) (hs : s.size ≤ 1099511627776) :
    Calls Try.prog 183 #[.string s] w fun e w' => e = .returned (.bool (decide (DyckP (L s)))) ∧ w = w' := by
  go_enter Try.func183, Try.ntmps183
  go_wp2_with fail
  go_loop [3, 4] (fun h i => ∃ k t : Nat, k ≤ s.size ∧ i = .int .i64 k ∧ h = .int .i64 t ∧ t ≤ k ∧ Hid (scan ((L s).take k) = some t)) (fun _ i => s.size - (intOf i).toNat)
  case atStart => exact ⟨0, 0, by omega, rfl, rfl, by omega, rfl⟩
  case round =>
    obtain ⟨k, t, hk, rfl, rfl, ht, HS⟩ := hrel
    by_cases hlt : k < s.size
    · by_cases hu : s[k].toNat = 117
      · have f1 : (((s[k].toNat : Nat) : Int) == 117) = true := by simp; omega
        have HU := Lib.hid hu
        clear hu
        go_wp2_with fail
        go_round
        case rel => exact ⟨k + 1, t + 1, by omega, by go_num, by go_num, by omega, scan_up hlt HS.out HU.out⟩
        case measure => simp [intOf]; omega
      · have f1 : (((s[k].toNat : Nat) : Int) == 117) = false := by simp; omega
        by_cases hd : s[k].toNat = 100
        · have f2 : (((s[k].toNat : Nat) : Int) == 100) = true := by simp; omega
          have HD := Lib.hid hd
          clear hd hu
          by_cases h0 : t = 0
          · have h00 : t ≤ 0 := by omega
            have H0 := Lib.hid h0
            clear h0
            go_wp2_with fail
            go_ret
            exact ⟨ret_bool (by simp [DyckP.not_of (scan_fall hlt (by rw [HS.out, H0.out]) HD.out)]), rfl⟩
          · go_wp2_with fail
            go_round
            case rel => exact ⟨k + 1, t - 1, by omega, by go_num, by go_num, by omega, scan_down hlt HS.out HD.out (by omega)⟩
            case measure => simp [intOf]; omega
        · have f2 : (((s[k].toNat : Nat) : Int) == 100) = false := by simp; omega
          have HU := Lib.hid hu
          have HD := Lib.hid hd
          clear hd hu
          go_wp2_with fail
          go_ret
          exact ⟨ret_bool (by simp [DyckP.not_of (scan_other hlt HS.out HU.out HD.out)]), rfl⟩
    · have H := Lib.hid (show DyckP (L s) ↔ (t = 0 ∧ s.size ≤ 16) from dyck_at_end (by omega) HS.out)
      by_cases h0 : t = 0
      · subst h0
        go_wp2_with fail
        go_ret
        exact ⟨ret_bool (by simp [H.out]; omega), rfl⟩
      · have f0 : ((t : Int) == 0) = false := by simp; omega
        go_wp2_with fail
        go_ret
        exact ⟨ret_bool (by simp [H.out, h0]), rfl⟩
set_option maxHeartbeats 1000000 in
theorem heights_any (s : ByteArray) (w : World) (hs : s.size ≤ 1048576) :
    Calls Try.prog 239 #[.string s] w fun e w' => ∃ r, e = .returned (.tuple #[r, .bool (decide (scan (L s) = some 0))]) ∧ (scan (L s) = some 0 → OwI w' w.heap.size r (hL (L s) s.size)) ∧ Below w.heap.size w w' := by
  go_enter Try.func239, Try.ntmps239
  go_wp2_with fail
  go_loopw [4, 5, 6] (fun v h i wr => ∃ k t : Nat, k ≤ s.size ∧ i = .int .i64 k ∧ h = .int .i64 t ∧ t ≤ k ∧ Hid (scan ((L s).take k) = some t) ∧ OwI wr w.heap.size v (hL (L s) k) ∧ Below w.heap.size w wr) (fun _ _ i _ => s.size - (intOf i).toNat)
  case atStart => exact ⟨0, 0, by omega, rfl, rfl, by omega, rfl, by rw [hL_zero]; exact OwI.one w 0 _ (Nat.le_refl _), (Below.refl _ _).alloc (Nat.le_refl _) _⟩
  case round =>
    obtain ⟨k, t, hk, rfl, rfl, ht, HS, hown, hB⟩ := hrel
    have hBs := hB.size
    by_cases hlt : k < s.size
    · by_cases hu : s[k].toNat = 117
      · have f1 : (((s[k].toNat : Nat) : Int) == 117) = true := by simp; omega
        have HU := Lib.hid hu
        clear hu
        go_wp2_with (at_builtin; refine wpList_appI _ rfl _ _ rfl w.heap.size _ _ rfl hown _ rfl rfl ?hl1 ?hb1 ?_)
        case hl1 => rw [hL_len]; omega
        case hb1 => exact hBs
        intro v' w1 hown1 hg1 hat1
        have R := hL_step_up (w := w) hlt HS.out HU.out hown1
        have hB1 := below_of_own hB hg1 hBs (fun g hg => (hown.lt g hg).1)
        clear hown1 hg1 hown hB
        go_wp2_with fail
        go_roundw
        case rel => exact ⟨k + 1, t + 1, by omega, by go_num, by go_num, by omega, R.1, R.2, hB1⟩
        case measure => simp [intOf]; omega
      · have f1 : (((s[k].toNat : Nat) : Int) == 117) = false := by simp; omega
        by_cases hd : s[k].toNat = 100
        · have f2 : (((s[k].toNat : Nat) : Int) == 100) = true := by simp; omega
          have HD := Lib.hid hd
          clear hd hu
          by_cases h0 : t = 0
          · have h00 : t ≤ 0 := by omega
            have H0 := Lib.hid h0
            clear h0
            go_wp2_with fail
            go_ret2
            have := scan_fall hlt (by rw [HS.out, H0.out]) HD.out
            exact ⟨.slice none 0 0, by simp [this], by simp [this], hB⟩
          · go_wp2_with (at_builtin; refine wpList_appI _ rfl _ _ rfl w.heap.size _ _ rfl hown _ rfl rfl ?hl2 ?hb2 ?_)
            case hl2 => rw [hL_len]; omega
            case hb2 => exact hBs
            intro v' w1 hown1 hg1 hat1
            have R := hL_step_down (w := w) hlt HS.out HD.out (by omega) hown1
            have hB1 := below_of_own hB hg1 hBs (fun g hg => (hown.lt g hg).1)
            clear hown1 hg1 hown hB
            go_wp2_with fail
            go_roundw
            case rel => exact ⟨k + 1, t - 1, by omega, by go_num, by go_num, by omega, R.1, R.2, hB1⟩
            case measure => simp [intOf]; omega
        · have f2 : (((s[k].toNat : Nat) : Int) == 100) = false := by simp; omega
          have HU := Lib.hid hu
          have HD := Lib.hid hd
          clear hd hu
          go_wp2_with fail
          go_ret2
          have := scan_other hlt HS.out HU.out HD.out
          exact ⟨.slice none 0 0, by simp [this], by simp [this], hB⟩
    · have H := Lib.hid (show scan (L s) = some t from scan_all (by omega) HS.out)
      have hke : k = s.size := by omega
      go_wp2_with fail
      go_ret2
      subst hke
      refine ⟨_, ?_, fun _ => hown, hB⟩
      rw [H.out]
      congr 4
      by_cases h0 : t = 0 <;> simp [h0]
theorem implIsDyck_any (s : ByteArray) (w : World) :
    Calls Try.prog 182 #[.string s] w fun e w' => e = .returned (.bool (decide (DyckP (L s)))) ∧ Below w.heap.size w w' := by
  by_cases h16 : s.size ≤ 16
  · have H := Lib.hid (show DyckP (L s) ↔ scan (L s) = some 0 from ⟨fun h => h.2, fun h => ⟨by rw [L_len]; exact h16, h⟩⟩)
    go_enter Try.func182, Try.ntmps182
    go_wp2_with fail
    refine (heights_any s _ (by omega)).mono ?_; rintro e w1 ⟨r, rfl, hr, b1⟩
    go_wp2_with fail
    go_ret
    exact ⟨ret_bool (by simp [H.out]), b1⟩
  · have H := Lib.hid (show ¬ DyckP (L s) from fun h => h16 (by have := h.1; rw [L_len] at this; exact this))
    go_enter Try.func182, Try.ntmps182
    go_wp2_with fail
    go_ret
    exact ⟨ret_bool (by simp [H.out]), Below.refl _ _⟩
end Go.Proofs.Ytnkkgfeegaiakaa

/- Contracts of HeightsOf, the program's and the reference's: both return the heights. No condition but the word's size. -/
namespace Go.Proofs.Ytnkkgfeegaiakaa
open Go.RowKit
def hhB (l : List UInt8) (k : Nat) : List Int := (List.range k).map fun (i : Nat) => ((hN l i : Nat) : Int)
theorem hhB_succ (l : List UInt8) (k : Nat) : hhB l (k + 1) = hhB l k ++ [((hN l k : Nat) : Int)] := by simp [hhB, List.range_succ]
theorem hhB_len (l : List UInt8) (k : Nat) : (hhB l k).length = k := by simp [hhB]
theorem hhB_is (l : List UInt8) (k : Nat) : hhB l (k + 1) = hL l k := rfl
def hoR (l : List UInt8) : List Int := if DyckP l then hL l l.length else []
set_option maxHeartbeats 1000000 in
theorem specHeightsOf_any (s : ByteArray) (w : World) (hs : s.size ≤ 1099511627776) :
    Calls Try.prog 193 #[.string s] w (RetI w (hoR (L s))) := by
  have own0 := OwI.empty_ w w.heap.size (Nat.le_refl _)
  have hB0 : Below w.heap.size w (w.alloc (.cells #[] 3)) := (Below.refl _ _).alloc (Nat.le_refl _) _
  by_cases hp : DyckP (L s)
  · have hl16 := hp.1
    rw [L_len] at hl16
    have HV := Lib.hid (show hoR (L s) = hhB (L s) (s.size + 1) by unfold hoR; rw [if_pos hp, hhB_is, L_len])
    have HD := Lib.hid hp
    have HI : Hid (∀ wq, Calls Try.prog 183 #[.string s] wq fun e w' => e = .returned (.bool true) ∧ wq = w') := fun wq => (specIsDyck_any s wq hs).mono fun e w' h => ⟨by rw [h.1]; simp [hp], h.2⟩
    clear hp
    go_enter Try.func193, Try.ntmps193
    go_wp2_with (go_at_call 183; refine (HI.out _).mono ?_; rintro e w' ⟨rfl, rfl⟩)
    generalize w.alloc (.cells #[] 3) = w0 at own0 hB0 ⊢
    go_loopw [3, 4, 5] (fun v h i wr => ∃ k t : Nat, k ≤ s.size ∧ i = .int .i64 k ∧ h = .int .i64 (t : Int) ∧ t ≤ k ∧ Hid (hN (L s) k = t) ∧ OwI wr w.heap.size v (hhB (L s) k) ∧ Below w.heap.size w wr) (fun _ _ i _ => s.size - (intOf i).toNat)
    case atStart => exact ⟨0, 0, by omega, rfl, rfl, by omega, rfl, own0, hB0⟩
    case round =>
      clear own0 hB0
      obtain ⟨k, t, hk, rfl, rfl, ht, HT, hown, hB⟩ := hrel
      have hsz := hB.size
      have hlen : (hhB (L s) k).length < 1099511627776 := by rw [hhB_len]; omega
      have HS := Lib.hid (show hhB (L s) (k + 1) = hhB (L s) k ++ [(t : Int)] by rw [hhB_succ, HT.out])
      by_cases hlt : k < s.size
      · have hlL : k < (L s).length := by rw [L_len]; exact hlt
        have hg : (L s)[k] = s[k] := L_get s k hlt
        by_cases hu : s[k].toNat = 117
        · have f1 : (((s[k].toNat : Nat) : Int) == 117) = true := by simp; omega
          have HN := Lib.hid (show hN (L s) (k + 1) = t + 1 by rw [hN_up HD.out hlL (by rw [hg]; exact hu), HT.out])
          clear hu hg
          go_wp2_with (at_builtin; refine wpList_appI _ rfl _ _ rfl w.heap.size _ _ rfl hown _ rfl rfl hlen hsz ?_)
          intro v' w1 hown1 hg1 hat1
          have hB1 := below_of_own hB hg1 hsz (fun g hg => (hown.lt g hg).1)
          clear hown hg1 hat1
          go_wp2_with fail
          go_roundw
          case rel => exact ⟨k + 1, t + 1, by omega, by go_num, by go_num, by omega, HN.out, by rw [HS.out]; exact hown1, hB1⟩
          case measure => simp [intOf]; omega
        · have f1 : (((s[k].toNat : Nat) : Int) == 117) = false := by simp; omega
          have hdn := hN_down HD.out hlL (by rw [hg]; exact hu)
          have ht0 : t ≠ 0 := by have := HT.out; omega
          have HN := Lib.hid (show hN (L s) (k + 1) = t - 1 by rw [hdn.2, HT.out])
          clear hu hg hdn
          go_wp2_with (at_builtin; refine wpList_appI _ rfl _ _ rfl w.heap.size _ _ rfl hown _ rfl rfl hlen hsz ?_)
          intro v' w1 hown1 hg1 hat1
          have hB1 := below_of_own hB hg1 hsz (fun g hg => (hown.lt g hg).1)
          clear hown hg1 hat1
          go_wp2_with fail
          go_roundw
          case rel => exact ⟨k + 1, t - 1, by omega, by go_num, by go_num, by omega, HN.out, by rw [HS.out]; exact hown1, hB1⟩
          case measure => simp [intOf]; omega
      · have hke : k = s.size := by omega
        subst hke
        go_wp2_with (at_builtin; refine wpList_appI _ rfl _ _ rfl w.heap.size _ _ rfl hown _ rfl rfl hlen hsz ?_)
        intro v' w1 hown1 hg1 hat1
        have hB1 := below_of_own hB hg1 hsz (fun g hg => (hown.lt g hg).1)
        clear hown hg1 hat1
        go_wp2_with fail
        go_ret
        exact ⟨_, rfl, by rw [HV.out, HS.out]; exact hown1, hB1⟩
  · have HV := Lib.hid (show hoR (L s) = [] by unfold hoR; rw [if_neg hp])
    have HI : Hid (∀ wq, Calls Try.prog 183 #[.string s] wq fun e w' => e = .returned (.bool false) ∧ wq = w') := fun wq => (specIsDyck_any s wq hs).mono fun e w' h => ⟨by rw [h.1]; simp [hp], h.2⟩
    clear hp
    go_enter Try.func193, Try.ntmps193
    go_wp2_with (go_at_call 183; refine (HI.out _).mono ?_; rintro e w' ⟨rfl, rfl⟩)
    go_ret
    exact ⟨_, rfl, by rw [HV.out]; exact own0, hB0⟩
theorem implHeightsOf_any (s : ByteArray) (w : World) :
    Calls Try.prog 192 #[.string s] w (RetI w (hoR (L s))) := by
  have HP0 := implIsDyck_any s w
  by_cases hp : DyckP (L s)
  · have hl16 := hp.1
    rw [L_len] at hl16
    simp only [decide_eq_true hp] at HP0
    have HV := Lib.hid (show hoR (L s) = hL (L s) s.size by unfold hoR; rw [if_pos hp, L_len])
    have HS := Lib.hid hp.2
    clear hp
    go_enter Try.func192, Try.ntmps192
    go_wp2_with fail
    refine HP0.mono ?_; rintro e w1 ⟨rfl, b1⟩
    go_wp2_with fail
    refine (heights_any s _ (by omega)).mono ?_; rintro e w2 ⟨r, rfl, hr, b2⟩
    have o2 := hr HS.out
    go_wp2_with fail
    go_ret
    exact ⟨_, rfl, by rw [HV.out]; exact o2.mono b1.size, below_then b1 b2⟩
  · simp only [decide_eq_false hp] at HP0
    have HV := Lib.hid (show hoR (L s) = [] by unfold hoR; rw [if_neg hp])
    clear hp
    go_enter Try.func192, Try.ntmps192
    go_wp2_with fail
    refine HP0.mono ?_; rintro e w1 ⟨rfl, b1⟩
    go_wp2_with fail
    go_ret
    exact ⟨_, rfl, by rw [HV.out]; exact OwI.empty_ _ _ b1.size, b1.alloc b1.size _⟩
end Go.Proofs.Ytnkkgfeegaiakaa

/- Contracts of PeaksOf, ReturnsOf and AreaOf, the program's and the reference's. No condition but the word's size. -/
namespace Go.Proofs.Ytnkkgfeegaiakaa
open Go.RowKit
def peaksV (l : List UInt8) : Int := if DyckP l then ((pkN l l.length : Nat) : Int) else -1
def rtF (l : List UInt8) (x : Nat) : Bool := decide (hN l x = 0)
def rtN (l : List UInt8) (k : Nat) : Nat := cnt k (rtF l)
def returnsV (l : List UInt8) : Int := if DyckP l then ((rtN l (l.length + 1) : Nat) : Int) - 1 else -1
def arN (l : List UInt8) (k : Nat) : Nat := sumTo k (fun i => if isU l i = true then hN l i else 0)
def areaV (l : List UInt8) : Int := if DyckP l then ((arN l l.length : Nat) : Int) else -1
theorem rtN_le (l : List UInt8) (k : Nat) : rtN l k ≤ k := cnt_le _ _
theorem arN_succ (l : List UInt8) (k : Nat) : arN l (k + 1) = arN l k + (if isU l k = true then hN l k else 0) := sumTo_succ _ _
theorem arN_le {l : List UInt8} (h : DyckP l) (k : Nat) (hk : k ≤ l.length) : arN l k ≤ k * 16 := by
  refine sumTo_le fun i hi => ?_
  have := hN_le l h i (by omega)
  have := h.1
  split <;> omega
theorem hoR_get {l : List UInt8} {i : Nat} (hi : i ≤ l.length) : (hL l l.length).getD i 0 = ((hN l i : Nat) : Int) := by
  rw [getD_of (by rw [hL_len]; omega)]
  simp [hL]
theorem extract_two {s : ByteArray} {k : Nat} (h1 : 1 ≤ k) (hk : k < s.size) : (s.extract (k - 1) (k + 1)).toList = [s[k - 1]'(by omega), s[k]] := by
  rw [ByteArray.toList_eq, ByteArray.data_extract, Array.toList_extract, List.extract_eq_take_drop]
  have h2 : k - 1 < s.data.toList.length := by simp; omega
  have h3 : k < s.data.toList.length := by simpa using hk
  rw [List.drop_eq_getElem_cons h2, show k - 1 + 1 = k by omega, List.drop_eq_getElem_cons h3, show k + 1 - (k - 1) = 2 by omega]
  rfl
theorem two_eq {a b c d : UInt8} : ([a, b] == [c, d]) = (decide (a.toNat = c.toNat) && decide (b.toNat = d.toNat)) := by
  have h : ∀ x y : UInt8, (x == y) = decide (x.toNat = y.toNat) := fun x y => by
    by_cases e : x = y
    · subst e; simp
    · rw [decide_eq_false (fun h => e (UInt8.toNat_inj.1 h))]; simpa using e
  simp [h]
theorem pk_test {s : ByteArray} {k : Nat} (h1 : 1 ≤ k) (hk : k < s.size) : ((s.extract (k - 1) (k + 1)).toList == [117, 100]) = pkB (L s) k := by
  rw [extract_two h1 hk, two_eq, pkB_eq (l := L s) h1 (by rw [L_len]; exact hk), L_get s k hk, L_get s (k - 1) (by omega), Bool.and_comm]
  rfl
set_option maxHeartbeats 1000000 in
theorem implPeaksOf_any (s : ByteArray) (w : World) :
    Calls Try.prog 89 #[.string s] w fun e w' => e = .returned (.int .i64 (peaksV (L s))) ∧ Below w.heap.size w w' := by
  have HP0 := implIsDyck_any s w
  by_cases hp : DyckP (L s)
  · have hl16 := hp.1
    rw [L_len] at hl16
    have HV := Lib.hid (show peaksV (L s) = ((pkN (L s) s.size : Nat) : Int) by unfold peaksV; rw [if_pos hp, L_len])
    simp only [decide_eq_true hp] at HP0
    clear hp
    go_enter Try.func89, Try.ntmps89
    go_wp2_with fail
    refine HP0.mono ?_; rintro e w1 ⟨rfl, b1⟩
    go_wp2_with fail
    go_loop [3, 4] (fun n i => ∃ k : Nat, 1 ≤ k ∧ (k ≤ s.size ∨ k = 1) ∧ i = .int .i64 k ∧ n = .int .i64 ((pkN (L s) k : Nat) : Int)) (fun _ i => s.size + 1 - (intOf i).toNat)
    case atStart => exact ⟨1, by omega, by omega, rfl, by rw [pkN_one]; rfl⟩
    case round =>
      obtain ⟨k, h1, hk, rfl, rfl⟩ := hrel
      have hk16 : k ≤ 16 := by omega
      have hpk := pkN_le (L s) k
      by_cases hlt : k < s.size
      · have hlL : k < (L s).length := by rw [L_len]; exact hlt
        have HPS := Lib.hid (pkN_succ (L s) k)
        have HF := Lib.hid (pkB_eq (l := L s) h1 hlL)
        have hg : (L s)[k] = s[k] := L_get s k hlt
        have hg1 : (L s)[k - 1] = s[k - 1] := L_get s (k - 1) (by omega)
        rw [hg, hg1] at HF
        have hk1 : ((k : Int) - 1) = ((k - 1 : Nat) : Int) := by omega
        have hlt1 : k - 1 < s.size := by omega
        clear hg hg1
        by_cases hu : (s[k - 1]'(by omega)).toNat = 117
        · have f2 : ((((s[k - 1]'(by omega)).toNat : Nat) : Int) == 117) = true := by simp; omega
          have g2 : (((s[k - 1]'(by omega)).toNat : Nat) : Int) = 117 := by omega
          by_cases hd : s[k].toNat = 100
          · have f1 : (((s[k].toNat : Nat) : Int) == 100) = true := by simp; omega
            have g1 : ((s[k].toNat : Nat) : Int) = 100 := by omega
            have HN := Lib.hid (show pkN (L s) (k + 1) = pkN (L s) k + 1 by rw [HPS.out, HF.out, decide_eq_true hd, decide_eq_true hu]; rfl)
            clear hu hd
            go_wp2_with fail
            go_round
            case rel => exact ⟨k + 1, by omega, by omega, by go_num, by rw [HN.out]; go_num⟩
            case measure => simp [intOf]; omega
          · have f1 : (((s[k].toNat : Nat) : Int) == 100) = false := by simp; omega
            have g1 : ¬ ((s[k].toNat : Nat) : Int) = 100 := by omega
            have HN := Lib.hid (show pkN (L s) (k + 1) = pkN (L s) k by rw [HPS.out, HF.out, decide_eq_false hd, Bool.false_and]; rfl)
            clear hu hd
            go_wp2_with fail
            go_round
            case rel => exact ⟨k + 1, by omega, by omega, by go_num, by rw [HN.out]⟩
            case measure => simp [intOf]; omega
        · have f2 : ((((s[k - 1]'(by omega)).toNat : Nat) : Int) == 117) = false := by simp; omega
          have g2 : ¬ (((s[k - 1]'(by omega)).toNat : Nat) : Int) = 117 := by omega
          have HN := Lib.hid (show pkN (L s) (k + 1) = pkN (L s) k by rw [HPS.out, HF.out, decide_eq_false hu, Bool.and_false]; rfl)
          clear hu
          go_wp2_with fail
          go_round
          case rel => exact ⟨k + 1, by omega, by omega, by go_num, by rw [HN.out]⟩
          case measure => simp [intOf]; omega
      · have HE : peaksV (L s) = ((pkN (L s) k : Nat) : Int) := by
          rw [HV.out]
          rcases hk with hk | hk
          · rw [show k = s.size by omega]
          · subst hk
            rcases Nat.eq_zero_or_pos s.size with h | h
            · rw [h, pkN_one]; rfl
            · rw [show s.size = 1 by omega]
        have HE1 := Lib.hid HE
        clear HE
        go_wp2_with fail
        go_ret
        exact ⟨ret_int HE1.out.symm, b1⟩
  · simp only [decide_eq_false hp] at HP0
    have HV := Lib.hid (show peaksV (L s) = -1 by unfold peaksV; rw [if_neg hp])
    clear hp
    go_enter Try.func89, Try.ntmps89
    go_wp2_with fail
    refine HP0.mono ?_; rintro e w1 ⟨rfl, b1⟩
    go_wp2_with fail
    go_ret
    exact ⟨ret_int HV.out.symm, b1⟩
end Go.Proofs.Ytnkkgfeegaiakaa

/- Contracts of the two range tests: each returns whether a number lies between two others. No condition. -/
namespace Go.Proofs.Ytnkkgfeegaiakaa
open Go.RowKit
theorem within_yes (x lo hi : Int) (w : World) (h1 : lo ≤ x) (h2 : x ≤ hi) :
    Calls Try.prog 178 #[.int .i64 x, .int .i64 lo, .int .i64 hi] w fun e w' => e = .returned (.bool true) ∧ w = w' := by
  go_enter Try.func178, Try.ntmps178
  go_wp2
  go_ret
  exact ⟨by simp_all, rfl⟩
theorem within_no (x lo hi : Int) (w : World) (h : ¬ (lo ≤ x ∧ x ≤ hi)) :
    Calls Try.prog 178 #[.int .i64 x, .int .i64 lo, .int .i64 hi] w fun e w' => e = .returned (.bool false) ∧ w = w' := by
  by_cases h1 : lo ≤ x
  · have h2 : ¬ x ≤ hi := fun h2 => h ⟨h1, h2⟩
    clear h
    go_enter Try.func178, Try.ntmps178
    go_wp2
    go_ret
    exact ⟨by simp_all, rfl⟩
  · clear h
    go_enter Try.func178, Try.ntmps178
    go_wp2
    go_ret
    exact ⟨by simp, rfl⟩
theorem l1In_yes (x lo hi : Int) (w : World) (h1 : lo ≤ x) (h2 : x ≤ hi) :
    Calls Try.prog 185 #[.int .i64 x, .int .i64 lo, .int .i64 hi] w fun e w' => e = .returned (.bool true) ∧ w = w' := by
  go_enter Try.func185, Try.ntmps185
  go_wp2
  go_ret
  exact ⟨by simp_all, rfl⟩
theorem l1In_no (x lo hi : Int) (w : World) (h : ¬ (lo ≤ x ∧ x ≤ hi)) :
    Calls Try.prog 185 #[.int .i64 x, .int .i64 lo, .int .i64 hi] w fun e w' => e = .returned (.bool false) ∧ w = w' := by
  by_cases h1 : lo ≤ x
  · have h2 : ¬ x ≤ hi := fun h2 => h ⟨h1, h2⟩
    clear h
    go_enter Try.func185, Try.ntmps185
    go_wp2
    go_ret
    exact ⟨by simp_all, rfl⟩
  · clear h
    go_enter Try.func185, Try.ntmps185
    go_wp2
    go_ret
    exact ⟨by simp, rfl⟩
end Go.Proofs.Ytnkkgfeegaiakaa

/- Contracts of IsPartition, the program's and the reference's: both return whether the numbers are a partition. No condition. -/
namespace Go.Proofs.Ytnkkgfeegaiakaa
open Go.RowKit
theorem specIsPartition_any (v : Value) (p : List Int) (w : World) (hv : RdI w v p) :
    Calls Try.prog 99 #[v] w fun e w' => e = .returned (.bool (decide (PartP p))) ∧ w = w' := by
  obtain ⟨A, c, rfl, hc, hl, hA⟩ := hv
  go_enter Try.func99, Try.ntmps99
  go_wp2_with fail
  go_loop [3, 4] (fun n i => ∃ k t : Nat, k ≤ p.length ∧ i = .int .i64 k ∧ n = .int .i64 t ∧ t ≤ k ∧ Hid (nextOf p k = t) ∧ Hid (∀ j, j < k → PartOk p j)) (fun _ i => p.length - (intOf i).toNat)
  case atStart => exact ⟨0, 0, by omega, rfl, rfl, by omega, rfl, fun j hj => absurd hj (by omega)⟩
  case round =>
    obtain ⟨k, t, hk, rfl, rfl, htk, HN, HO⟩ := hrel
    by_cases hlt : k < p.length
    · obtain ⟨b, o, rfl, _, hcl⟩ := hA (by omega)
      have c1 := hcl k hlt
      clear hcl hA
      by_cases hin : 0 ≤ p[k] ∧ p[k] ≤ (t : Int)
      · obtain ⟨h0, h1⟩ := hin
        by_cases heq : p[k] = (t : Int)
        · have hs : (p[k] == (t : Int)) = true := by simpa using heq
          have HE := Lib.hid heq
          clear heq
          go_wp2_with (go_at_call 185; refine (l1In_yes _ _ _ _ (by omega) (by omega)).mono ?_; rintro e w' ⟨rfl, rfl⟩)
          go_round
          case rel =>
            refine ⟨k + 1, t + 1, by omega, by go_num, by go_num, by omega, ?_, fun j hj => ?_⟩
            · show nextOf p (k + 1) = _
              rw [nextOf_succ _ _ hlt, HN.out, HE.out]; omega
            · rcases Nat.lt_or_ge j k with h | h
              · exact HO.out j h
              · obtain rfl : j = k := by omega
                exact ⟨by rw [getD_of hlt]; exact h0, by rw [getD_of hlt, HN.out]; exact h1⟩
          case measure => simp [intOf]; omega
        · have hs : (p[k] == (t : Int)) = false := by simpa using heq
          have HE := Lib.hid heq
          clear heq
          go_wp2_with (go_at_call 185; refine (l1In_yes _ _ _ _ (by omega) (by omega)).mono ?_; rintro e w' ⟨rfl, rfl⟩)
          go_round
          case rel =>
            refine ⟨k + 1, t, by omega, by go_num, rfl, by omega, ?_, fun j hj => ?_⟩
            · show nextOf p (k + 1) = _
              have := HE.out
              rw [nextOf_succ _ _ hlt, HN.out]; omega
            · rcases Nat.lt_or_ge j k with h | h
              · exact HO.out j h
              · obtain rfl : j = k := by omega
                exact ⟨by rw [getD_of hlt]; exact h0, by rw [getD_of hlt, HN.out]; exact h1⟩
          case measure => simp [intOf]; omega
      · go_wp2_with (go_at_call 185; refine (l1In_no _ _ _ _ hin).mono ?_; rintro e w' ⟨rfl, rfl⟩)
        go_ret
        refine ⟨ret_bool ?_, rfl⟩
        have : ¬ PartP p := PartP.not_at hlt (fun h => hin (by obtain ⟨h0, h1⟩ := h; rw [getD_of hlt] at h0 h1; rw [HN.out] at h1; exact ⟨h0, h1⟩))
        simp [this]
    · have e : PartP p ↔ p.length ≤ 8 := ⟨fun h => h.1, fun h => ⟨h, fun j hj => HO.out j (by omega)⟩⟩
      have H := Lib.hid e
      clear e
      go_wp2_with fail
      go_ret
      exact ⟨ret_bool (by simp [H.out]; omega), rfl⟩
theorem implIsPartition_any (v : Value) (p : List Int) (w : World) (hv : RdI w v p) :
    Calls Try.prog 98 #[v] w fun e w' => e = .returned (.bool (decide (PartP p))) ∧ w = w' := by
  obtain ⟨A, c, rfl, hc, hl, hA⟩ := hv
  by_cases h8 : p.length ≤ 8
  · go_enter Try.func98, Try.ntmps98
    go_wp2_with fail
    go_loop [3, 11] (fun n i => ∃ k t : Nat, k ≤ p.length ∧ i = .int .i64 k ∧ n = .int .i64 t ∧ t ≤ k ∧ Hid (nextOf p k = t) ∧ Hid (∀ j, j < k → PartOk p j)) (fun _ i => p.length - (intOf i).toNat)
    case atStart => exact ⟨0, 0, by omega, rfl, rfl, by omega, rfl, fun j hj => absurd hj (by omega)⟩
    case round =>
      obtain ⟨k, t, hk, rfl, rfl, htk, HN, HO⟩ := hrel
      by_cases hlt : k < p.length
      · obtain ⟨b, o, rfl, _, hcl⟩ := hA (by omega)
        have c1 := hcl k hlt
        clear hcl hA
        by_cases hin : 0 ≤ p[k] ∧ p[k] ≤ (t : Int)
        · obtain ⟨h0, h1⟩ := hin
          go_wp2_with (go_at_call 178; refine (within_yes _ _ _ _ (by omega) (by omega)).mono ?_; rintro e w' ⟨rfl, rfl⟩)
          go_ways
          go_round
          case rel =>
            refine ⟨k + 1, (max (t : Int) (p[k] + 1)).toNat, by omega, by go_num, ?_, by omega, ?_, fun j hj => ?_⟩
            · go_num
            · show nextOf p (k + 1) = _
              rw [nextOf_succ _ _ hlt, HN.out]; omega
            · rcases Nat.lt_or_ge j k with h | h
              · exact HO.out j h
              · obtain rfl : j = k := by omega
                exact ⟨by rw [getD_of hlt]; exact h0, by rw [getD_of hlt, HN.out]; exact h1⟩
          case measure => simp [intOf]; omega
        · go_wp2_with (go_at_call 178; refine (within_no _ _ _ _ hin).mono ?_; rintro e w' ⟨rfl, rfl⟩)
          go_ret
          refine ⟨ret_bool ?_, rfl⟩
          have : ¬ PartP p := PartP.not_at hlt (fun h => hin (by obtain ⟨h0, h1⟩ := h; rw [getD_of hlt] at h0 h1; rw [HN.out] at h1; exact ⟨h0, h1⟩))
          simp [this]
      · have e : PartP p := ⟨h8, fun j hj => HO.out j (by omega)⟩
        have H := Lib.hid e
        clear e
        go_wp2_with fail
        go_ret
        exact ⟨ret_bool (by simp [H.out]), rfl⟩
  · go_enter Try.func98, Try.ntmps98
    go_wp2_with fail
    go_ret
    have : ¬ PartP p := fun h => h8 h.1
    exact ⟨ret_bool (by simp [this]), rfl⟩
end Go.Proofs.Ytnkkgfeegaiakaa

/- Contracts of RenumberBlocks, the program's and the reference's, and of the reference's helper. No condition but the slice's size. -/
namespace Go.Proofs.Ytnkkgfeegaiakaa
open Go.RowKit
set_option maxHeartbeats 1000000 in
theorem l8Renumber_any (v : Value) (l : List Int) (w : World) (hv : RdI w v l) (hl8 : l.length ≤ 1000) :
    Calls Try.prog 204 #[v] w (RetI w (rnL l)) := by
  have hv0 := hv
  obtain ⟨A, c, rfl, hc, hl, _⟩ := hv
  go_enter Try.func204, Try.ntmps204
  go_wp2_with fail
  have own1 := OwI.empty_ w w.heap.size (Nat.le_refl _)
  have hs : (w.alloc (.cells #[] 3)).heap.size = w.heap.size + 1 := by simp
  have own2 := OwI.empty_ (w.alloc (.cells #[] 3)) w.heap.size (by rw [hs]; omega)
  have hB0 : Below w.heap.size w ((w.alloc (.cells #[] 3)).alloc (.cells #[] 3)) := ((Below.refl _ _).alloc (Nat.le_refl _) _).alloc (by rw [hs]; omega) _
  have own1 := OwI.below own1 ((Below.refl _ _).alloc (Nat.le_refl _) (.cells #[] 3))
  rw [hs] at own2
  generalize (w.alloc (.cells #[] 3)).alloc (.cells #[] 3) = w0 at own1 own2 hB0 ⊢
  clear hs
  go_loopw [3, 4, 5] (fun x y i wr => ∃ k : Nat, k ≤ l.length ∧ i = .int .i64 k ∧ OwI wr w.heap.size x (rnL (l.take k)) ∧ OwI wr w.heap.size y (nm (l.take k)) ∧ Apart x y ∧ Below w.heap.size w wr) (fun _ _ i _ => l.length - (intOf i).toNat)
  case atStart => exact ⟨0, by omega, rfl, own1, own2, fun g h1 h2 => by simp [Value.ownBlock] at h1 h2; omega, hB0⟩
  case round =>
    clear own1 own2 hB0
    obtain ⟨k, hk, rfl, ho, hn, hap, hB⟩ := hrel
    have hsz := hB.size
    by_cases hlt : k < l.length
    · obtain ⟨b, o, rfl, hb, hcl⟩ := (hv0.below hB).at_ (by omega)
      have d0 := hcl k hlt
      clear hcl
      have HT := Lib.hid (take_succ_get l k hlt)
      have hnl : (nm (l.take k)).length ≤ 1000 := Nat.le_trans (nm_len _) (by simp; omega)
      have hol : (rnL (l.take k)).length ≤ 1000 := by rw [rnL_len]; simp; omega
      have HU := Lib.hid (nm_uniq (l.take k))
      generalize hN : nm (l.take k) = N at hn hnl HU
      have HN := Lib.hid hN
      clear hN
      generalize hO : rnL (l.take k) = O at ho hol
      have HO := Lib.hid hO
      clear hO
      have hnr := hn.rd
      obtain ⟨A2, c2, hv2, hc2, hl2, hA2⟩ := hnr
      have HV2 := Lib.hid hv2
      have hv2' := hv2
      subst hv2'
      obtain ⟨wo, rfl⟩ : ∃ wo : World, wo = wr := ⟨_, rfl⟩
      go_wp2_with fail
      go_loopw [6, 7] (fun a i wr => ∃ (j : Nat) (t : Int), j ≤ N.length ∧ i = .int .i64 j ∧ a = .int .i64 t ∧ Hid (t = atV N l[k] j) ∧ ∃ q, wr = wo.drewN q) (fun _ i _ => N.length - (intOf i).toNat)
      case atStart => exact ⟨0, -1, by omega, rfl, rfl, (atV_zero _ _).symm, 0, rfl⟩
      case round =>
        obtain ⟨j, t, hj, rfl, rfl, HA, q, rfl⟩ := hrel
        by_cases hjl : j < N.length
        · obtain ⟨b2, o2, rfl, _, h2⟩ := hA2 (by omega)
          have d1 := h2 j hjl
          clear h2 hA2
          by_cases he : N[j] = l[k]
          · have f1 : (N[j] == l[k]) = true := by simpa using he
            have HE := Lib.hid (atV_hit HU.out hjl he)
            clear he
            go_wp2_with fail
            go_quiet (fail)
            go_wp2_with fail
            go_roundw
            case rel => exact ⟨j + 1, j, by omega, by go_num, rfl, HE.out.symm, _, rfl⟩
            case measure => simp [intOf]; omega
          · have f1 : (N[j] == l[k]) = false := by simpa using he
            have HE := Lib.hid (atV_miss hjl he)
            clear he
            go_wp2_with fail
            go_quiet (fail)
            go_wp2_with fail
            go_roundw
            case rel => exact ⟨j + 1, t, by omega, by go_num, rfl, by show t = _; rw [HE.out, HA.out], _, rfl⟩
            case measure => simp [intOf]; omega
        · have hje : j = N.length := by omega
          clear hA2
          by_cases hmem : l[k] ∈ N
          · have R := rnL_snoc_old (l := l.take k) (x := l[k]) (by rw [HN.out]; exact hmem)
            rw [HN.out, HO.out] at R
            have HR := Lib.hid R
            have ht : t = ((ix N l[k] : Nat) : Int) := by rw [HA.out, hje, atV_end_old hmem]
            have hpos : ¬ t < 0 := by rw [ht]; omega
            have HTT := Lib.hid ht
            clear R ht hmem hje
            go_wp2_with (at_builtin; refine wpList_appI _ rfl _ _ rfl w.heap.size _ _ rfl (ho.drewN q) _ rfl rfl (by omega) (by simpa using hsz) ?_)
            intro v' w1 ho1 hg1 hat1
            have hB1 := below_of_own (below_drewN hB q) hg1 (by simpa using hsz) (fun g hg => (ho.lt g hg).1)
            have R2 := (OwI_is.1 (hn.drewN q)).after_app hap hg1 hat1
            have HR2 := Lib.hid R2
            clear R2 ho hn hap hg1 hat1
            go_wp2_with fail
            go_roundw
            case rel => exact ⟨k + 1, by omega, by go_num, by rw [HT.out, HR.out.2, ← HTT.out]; exact ho1, by rw [HT.out, HR.out.1]; exact HR2.out.1, HR2.out.2, hB1⟩
            case measure => simp [intOf]; omega
          · have R := rnL_snoc_new (l := l.take k) (x := l[k]) (by rw [HN.out]; exact hmem)
            rw [HN.out, HO.out] at R
            have HR := Lib.hid R
            have hneg : t < 0 := by rw [HA.out, hje, atV_end_new hmem]; omega
            clear R hmem hje
            go_wp2_with (at_builtin; refine wpList_appI _ rfl _ _ rfl w.heap.size _ _ rfl (hn.drewN q) _ rfl rfl (by omega) (by simpa using hsz) ?_)
            intro v' w1 hn1 hg1 hat1
            have hB1 := below_of_own (below_drewN hB q) hg1 (by simpa using hsz) (fun g hg => (hn.lt g hg).1)
            have R2 := (OwI_is.1 (ho.drewN q)).after_app hap.symm hg1 hat1
            have ho1 : OwI w1 w.heap.size _ O := R2.1
            have hap1 := R2.2.symm
            have hsz1 := hB1.size
            clear R2 ho hn hap hg1 hat1
            go_wp2_with (at_builtin; refine wpList_appI _ rfl _ _ rfl w.heap.size _ _ rfl ho1 _ rfl rfl (by omega) hsz1 ?_)
            intro v'' w2 ho2 hg2 hat2
            have hB2 := below_of_own hB1 hg2 hsz1 (fun g hg => (ho1.lt g hg).1)
            have R2 := (OwI_is.1 hn1).after_app hap1 hg2 hat2
            have HR2 := Lib.hid R2
            clear R2 ho1 hn1 hap1 hg2 hat2
            go_wp2_with fail
            go_roundw
            case rel => exact ⟨k + 1, by omega, by go_num, by rw [HT.out, HR.out.2]; exact ho2, by rw [HT.out, HR.out.1]; exact HR2.out.1, HR2.out.2, hB2⟩
            case measure => simp [intOf]; omega
    · have hke : l.take k = l := List.take_of_length_le (by omega)
      have HK := Lib.hid hke
      clear hke
      go_wp2_with fail
      go_ret
      exact RetI.mk rfl (by have := ho; rw [HK.out] at this; exact this) hB
theorem specRenumberBlocks_any (v : Value) (l : List Int) (w : World) (hv : RdI w v l) :
    Calls Try.prog 97 #[v] w (RetIB w (rnR l)) := by
  have hv0 := hv
  obtain ⟨A, c, rfl, hc, hl, _⟩ := hv
  by_cases h8 : l.length ≤ 8
  · have HV := Lib.hid (show rnR l = (rnL l, true) by unfold rnR; rw [if_pos h8])
    go_enter Try.func97, Try.ntmps97
    go_wp2_with fail
    refine (l8Renumber_any _ _ _ hv0 (by omega)).mono ?_; rintro e w1 ⟨r, rfl, o1, b1⟩
    go_wp2_with fail
    go_ret2
    exact RetIB.mk HV.out o1 b1
  · have HV := Lib.hid (show rnR l = ([], false) by unfold rnR; rw [if_neg h8])
    go_enter Try.func97, Try.ntmps97
    go_wp2_with fail
    go_ret2
    exact RetIB.mk HV.out (OwI.empty_ _ _ (Nat.le_refl _)) ((Below.refl _ _).alloc (Nat.le_refl _) _)
set_option maxHeartbeats 1000000 in
theorem implRenumberBlocks_any (v : Value) (l : List Int) (w : World) (hv : RdI w v l) :
    Calls Try.prog 96 #[v] w (RetIB w (rnR l)) := by
  have hv0 := hv
  obtain ⟨A, c, rfl, hc, hl, _⟩ := hv
  by_cases h8 : l.length ≤ 8
  · have HV := Lib.hid (show rnR l = (rnL l, true) by unfold rnR; rw [if_pos h8])
    go_enter Try.func96, Try.ntmps96
    go_wp2_with fail
    have own1 := OwI.empty_ w w.heap.size (Nat.le_refl _)
    go_loopw [4, 5, 18] (fun x n i wr => ∃ k t : Nat, k ≤ l.length ∧ i = .int .i64 k ∧ n = .int .i64 t ∧ t ≤ k ∧ Hid ((nm (l.take k)).length = t) ∧ OwI wr w.heap.size x (rnL (l.take k)) ∧ Below w.heap.size w wr) (fun _ _ i _ => l.length - (intOf i).toNat)
    case atStart => exact ⟨0, 0, by omega, rfl, rfl, by omega, rfl, own1, (Below.refl _ _).alloc (Nat.le_refl _) _⟩
    case round =>
      clear own1
      obtain ⟨k, t, hk, rfl, rfl, htk, HTN, ho, hB⟩ := hrel
      have hsz := hB.size
      by_cases hlt : k < l.length
      · obtain ⟨b, o, rfl, hb, hcl⟩ := (hv0.below hB).at_ (by omega)
        have d0 := hcl k hlt
        have HC := Lib.hid hcl
        clear hcl
        have HT := Lib.hid (take_succ_get l k hlt)
        have hol : (rnL (l.take k)).length ≤ 1000 := by rw [rnL_len]; simp; omega
        have hor := ho.rd
        obtain ⟨A2, c2, hv2, hc2, hl2, hA2⟩ := hor
        subst hv2
        have htl : (l.take k).length = k := by simp; omega
        have HTL := Lib.hid htl
        clear htl
        go_wp2_with fail
        go_loop [8, 28] (fun bb i => ∃ j : Nat, j ≤ k ∧ i = .int .i64 j ∧ bb = .int .i64 (t : Int) ∧ Hid (∀ i, i < j → l.getD i 0 ≠ l[k])) (fun _ i => k - (intOf i).toNat)
        case atStart => exact ⟨0, by omega, rfl, rfl, fun i h => absurd h (by omega)⟩
        case round =>
          obtain ⟨j, hj, rfl, rfl, HJ⟩ := hrel
          by_cases hjk : j < k
          · have d1 := HC.out j (by omega)
            by_cases he : l[k] = l[j]
            · have f1 : (l[k] == l[j]) = true := by simpa using he
              have hm : l[k] ∈ l.take k := by rw [he, List.mem_take_iff_getElem]; exact ⟨j, by omega, rfl⟩
              have hmem := (nm_mem (l.take k) l[k]).2 hm
              have R := rnL_snoc_old hmem
              have hix := ix_lt hmem
              have hjo : j < (rnL (l.take k)).length := by rw [rnL_len, HTL.out]; exact hjk
              have hval : (rnL (l.take k))[j] = ((ix (nm (l.take k)) l[k] : Nat) : Int) := by
                rw [rnL_get (by rw [HTL.out]; exact hjk), List.getElem_take, ← he]
              have hixt : ix (nm (l.take k)) l[k] < t := by rw [← HTN.out]; exact hix
              obtain ⟨b2, o2, rfl, _, h2⟩ := hA2 (by omega)
              have d2 := h2 j hjo
              rw [hval] at d2
              have HR := Lib.hid R
              generalize hix0 : ix (nm (l.take k)) l[k] = x0 at d2 hixt HR
              have hne : ((x0 : Int) == (t : Int)) = false := by simp; omega
              clear h2 hA2 he hm hmem R hix hval hix0
              go_wp2_with (at_builtin; refine wpList_appI _ rfl _ _ rfl w.heap.size _ _ rfl ho _ rfl rfl (by omega) hsz ?_)
              intro v' w1 ho1 hg1 hat1
              have hB1 := below_of_own hB hg1 hsz (fun g hg => (ho.lt g hg).1)
              clear ho hg1 hat1
              go_wp2_with fail
              go_roundw
              case rel => exact ⟨k + 1, t, by omega, by go_num, rfl, by omega, by show List.length _ = t; rw [HT.out, HR.out.1, HTN.out], by rw [HT.out, HR.out.2]; exact ho1, hB1⟩
              case measure => simp [intOf]; omega
            · have f1 : (l[k] == l[j]) = false := by simpa using he
              have HE := Lib.hid he
              clear he hA2
              go_wp2_with fail
              go_round
              case rel =>
                refine ⟨j + 1, by omega, by go_num, rfl, fun i h => ?_⟩
                rcases Nat.lt_or_ge i j with h1 | h1
                · exact HJ.out i h1
                · obtain rfl : i = j := by omega
                  rw [getD_of (by omega)]; exact fun e => HE.out e.symm
              case measure => simp [intOf]; omega
          · have hmem : l[k] ∉ nm (l.take k) := by
              rw [nm_mem, List.mem_take_iff_getElem]
              rintro ⟨i, hi, e⟩
              exact HJ.out i (by omega) (by rw [getD_of (by omega), e])
            have R := rnL_snoc_new hmem
            rw [HTN.out] at R
            have HR := Lib.hid R
            clear R hmem hA2
            go_wp2_with (at_builtin; refine wpList_appI _ rfl _ _ rfl w.heap.size _ _ rfl ho _ rfl rfl (by omega) hsz ?_)
            intro v' w1 ho1 hg1 hat1
            have hB1 := below_of_own hB hg1 hsz (fun g hg => (ho.lt g hg).1)
            clear ho hg1 hat1
            go_wp2_with fail
            go_roundw
            case rel => exact ⟨k + 1, t + 1, by omega, by go_num, by go_num, by omega, by show List.length _ = t + 1; rw [HT.out, HR.out.1, List.length_append, HTN.out]; rfl, by rw [HT.out, HR.out.2]; exact ho1, hB1⟩
            case measure => simp [intOf]; omega
      · have hke : l.take k = l := List.take_of_length_le (by omega)
        have HK := Lib.hid hke
        clear hke
        go_wp2_with fail
        go_ret2
        exact RetIB.mk HV.out (by have := ho; rw [HK.out] at this; exact this) hB
  · have HV := Lib.hid (show rnR l = ([], false) by unfold rnR; rw [if_neg h8])
    go_enter Try.func96, Try.ntmps96
    go_wp2_with fail
    go_ret2
    exact RetIB.mk HV.out (OwI.empty_ _ _ (Nat.le_refl _)) ((Below.refl _ _).alloc (Nat.le_refl _) _)
end Go.Proofs.Ytnkkgfeegaiakaa

/- Contracts of TurnPartition, the program's and the reference's. No condition. -/
namespace Go.Proofs.Ytnkkgfeegaiakaa
open Go.RowKit
def tpL (p : List Int) : List Int := p.getD (p.length - 1) 0 :: p.take (p.length - 1)
def tpR (p : List Int) : List Int × Bool := if PartP p then (if p.length = 0 then ([], true) else (rnL (tpL p), true)) else ([], false)
theorem tpL_len {p : List Int} (h : p.length ≠ 0) : (tpL p).length = p.length := by simp [tpL]; omega
set_option maxRecDepth 8000 in
/-- a whole slice appended, as a step of a region that draws -/
theorem step_appN (wr : World) {ops : Array Oper} {o : Oper} {a : Act} {K : Act → World → Prop} {Q : Exit → Act → World → Prop} {E : Prop} (hgd : o.guard = none) (s x : Operand)
    (ho : o.op = .call { callee := .builtin .append, args := #[s, x], argTypes := #[38, 38] })
    (base : Nat) (v : Value) (xs ys : List Int) (hs : a.eval s = v) (hown : OwI wr base v xs) (b off m c : Nat)
    (hx : a.eval x = .slice (some ⟨b, off, none⟩) m c) (hm : ys.length = m) (hc : ∀ j (h : j < ys.length), wr.cell? ⟨b, off + j, none⟩ = some (.int .i64 ys[j])) (hlen : xs.length + m ≤ 1099511627776) (hbase : base ≤ wr.heap.size)
    (h : ∀ v' w', OwI w' base v' (xs ++ ys) → wr.grownBy w' v.ownBlock → K (a.put o.dst v') w') :
    if Region.wanted o (yielded ops a.tmps) = true then Oper.wp Try.prog o a wr K Q else E := by
  obtain ⟨i0, hi, hz0, hz1, hz2⟩ := info_parts info_int
  have hw : Region.wanted o (yielded ops a.tmps) = true := by simp [Region.wanted, hgd]
  rw [if_pos hw]
  have hcell : ∀ j u, (ys.map (Value.int .i64))[j]? = some u → wr.cell? ((⟨b, off, none⟩ : Addr).add j) = some u := by
    intro j u hu
    rw [List.getElem?_map] at hu
    rcases Nat.lt_or_ge j ys.length with hj | hj
    · rw [List.getElem?_eq_getElem hj] at hu
      injection hu with hu
      subst hu
      have := hc j hj
      unfold Addr.add
      by_cases h0 : j = 0
      · subst h0; simpa using this
      · rw [if_neg h0]; exact this
    · rw [List.getElem?_eq_none hj] at hu; cases hu
  obtain ⟨v', w', hrun, h2, h3, h4, h5⟩ := run_append_own_at (P := Try.prog) wr base 38 o.type 3 i0 (.int .i64 0) 1 8 Try.underlying38 hi hz0 hz1 hz2 rfl (by omega) v xs.length (xs.map (Value.int .i64)) hown.1 ⟨b, off, none⟩ m c (ys.map (Value.int .i64)) (by simpa using hm) hcell
    (by intro u hu; obtain ⟨y, _, rfl⟩ := List.mem_map.1 hu; rfl) (by unfold maxLen; omega) (by omega) hbase
  unfold Oper.wp execOp
  simp only [ho, resolve, invoke, builtin, Sem.run_bind, Sem.run_pure, Result.andThen_ok, List.map_toArray, List.map_cons, List.map_nil, hs, hx, hrun]
  refine h v' w' ⟨?_, by rw [List.length_append]; omega⟩ h3
  rw [List.length_append, List.map_append, hm]
  exact h2
set_option maxRecDepth 8000 in
set_option maxHeartbeats 1000000 in
theorem specTurnPartition_any (v : Value) (p : List Int) (w : World) (hv : RdI w v p) :
    Calls Try.prog 92 #[v] w (RetIB w (tpR p)) := by
  have hv0 := hv
  obtain ⟨A, c, rfl, hc, hl, _⟩ := hv
  have HP0 := specIsPartition_any _ _ _ hv0
  by_cases hP : PartP p
  · simp only [decide_eq_true hP] at HP0
    have h8 := hP.1
    have HV := Lib.hid (show tpR p = if p.length = 0 then ([], true) else (rnL (tpL p), true) by unfold tpR; rw [if_pos hP])
    clear hP
    by_cases h0 : p.length = 0
    · have HV2 := Lib.hid (show tpR p = ([], true) by rw [HV.out, if_pos h0])
      rw [h0] at HP0 hc ⊢
      go_enter Try.func92, Try.ntmps92
      go_wp2_with fail
      refine HP0.mono ?_; rintro e w' ⟨rfl, rfl⟩
      go_wp2_with fail
      go_ret2
      exact RetIB.mk HV2.out (OwI.empty_ w _ (Nat.le_refl _)) ((Below.refl _ _).alloc (Nat.le_refl _) _)
    · have HV2 := Lib.hid (show tpR p = (rnL (tpL p), true) by rw [HV.out, if_neg h0])
      have f0 : ((p.length : Int) == 0) = false := beq_eq_false_iff_ne.2 (by omega)
      obtain ⟨n, hn⟩ : ∃ n, p.length = n + 1 := ⟨p.length - 1, by omega⟩
      obtain ⟨b, o, rfl, hb, hcl⟩ := hv0.at_ (by omega)
      have d0 := hcl n (by omega)
      obtain ⟨X, hX⟩ : ∃ X, X = p[n] := ⟨_, rfl⟩
      rw [← hX] at d0
      have HTL := Lib.hid (show tpL p = [X] ++ p.take n by
        have e : p.length - 1 = n := by omega
        unfold tpL; rw [e, getD_of (show n < p.length by omega), hX]; rfl)
      have hwr : IntKind.i64.wrap (n : Int) = (n : Int) := IntWalk.i64_in _ (by omega)
      have hw2 : (n : Int) + 1 - 1 = (n : Int) := by omega
      have g1 : (n : Int) < (n : Int) + 1 := by omega
      have hbX : Below w.heap.size w (w.drew.alloc (.cells #[.int .i64 X] 3)) := (below_draws w 1).alloc (Nat.le_refl _) _
      have hown : OwI (w.drew.alloc (.cells #[.int .i64 X] 3)) w.heap.size (.slice (some ⟨w.heap.size, 0, none⟩) 1 1) [X] := OwI.one w.drew X w.heap.size (Nat.le_refl _)
      have d0A : (w.alloc (.cells #[.int .i64 X] 3)).cell? ⟨b, o + n, none⟩ = some (.int .i64 X) := (((Below.refl _ _).alloc (Nat.le_refl _) _).cell (p := ⟨b, o + n, none⟩) hb).trans d0
      have hcc : ∀ j (h : j < (p.take n).length), (w.drew.alloc (.cells #[.int .i64 X] 3)).cell? ⟨b, o + j, none⟩ = some (.int .i64 (p.take n)[j]) := by
        intro j hj
        have hj' : j < n := by simp at hj; omega
        rw [(hbX.cell (p := ⟨b, o + j, none⟩) hb).trans (hcl j (by omega))]
        simp
      have htn : (p.take n).length = n := by simp; omega
      have hln : [X].length + n ≤ 1099511627776 := by simp; omega
      have hbs : w.heap.size ≤ (w.drew.alloc (.cells #[.int .i64 X] 3)).heap.size := hbX.size
      have hcap : n ≤ c := by omega
      have hcapI : (n : Int) ≤ (c : Int) := by omega
      have h100 : (tpL p).length ≤ 1000 := by rw [tpL_len h0]; omega
      have HCC := Lib.hid hcc
      clear hcl hcc
      have hN := hn
      rw [hn] at HP0 f0 hc
      rw [hn]
      clear hX
      go_enter Try.func92, Try.ntmps92
      go_wp2_with fail
      refine HP0.mono ?_; rintro e w' ⟨rfl, rfl⟩
      go_wp2_with fail
      go_region_law (first
        | refine step_appN (w.drew.alloc (.cells #[.int .i64 X] 3)) rfl (.tmp 18) (.tmp 23) rfl w.heap.size (.slice (some ⟨w.heap.size, 0, none⟩) 1 1) [X] (p.take n) (by simp [Act.eval]) hown b o n c (by simp [Act.eval]) htn HCC.out hln hbs ?_
          intro v' w2 o2 g2
          have hB2 : Below w.heap.size w w2 := hbX.grown g2 hbs (fun g hg => (hown.lt g hg).1)
          rw [← HTL.out] at o2
          clear g2
        | go_simp
          go_at_call 204
          refine (l8Renumber_any _ _ _ o2.rd h100).mono ?_
          rintro e w3 ⟨r, rfl, o3, b3⟩)
      all_goals (
        go_wp2_with fail
        go_ret2
        exact RetIB.mk HV2.out (o3.mono hB2.size) (below_then hB2 b3))
  · simp only [decide_eq_false hP] at HP0
    have HV := Lib.hid (show tpR p = ([], false) by unfold tpR; rw [if_neg hP])
    clear hP
    go_enter Try.func92, Try.ntmps92
    go_wp2_with fail
    refine HP0.mono ?_; rintro e w' ⟨rfl, rfl⟩
    go_wp2_with fail
    go_ret2
    exact RetIB.mk HV.out (OwI.empty_ w _ (Nat.le_refl _)) ((Below.refl _ _).alloc (Nat.le_refl _) _)
set_option maxRecDepth 8000 in
set_option maxHeartbeats 1000000 in
theorem implTurnPartition_any (v : Value) (p : List Int) (w : World) (hv : RdI w v p) :
    Calls Try.prog 91 #[v] w (RetIB w (tpR p)) := by
  have hv0 := hv
  obtain ⟨A, c, rfl, hc, hl, _⟩ := hv
  have HP0 := implIsPartition_any _ _ _ hv0
  by_cases hP : PartP p
  · simp only [decide_eq_true hP] at HP0
    have h8 := hP.1
    have HV := Lib.hid (show tpR p = if p.length = 0 then ([], true) else (rnL (tpL p), true) by unfold tpR; rw [if_pos hP])
    clear hP
    by_cases h0 : p.length = 0
    · have HV2 := Lib.hid (show tpR p = ([], true) by rw [HV.out, if_pos h0])
      rw [h0] at HP0 hc ⊢
      go_enter Try.func91, Try.ntmps91
      go_wp2_with fail
      refine HP0.mono ?_; rintro e w' ⟨rfl, rfl⟩
      go_wp2_with fail
      go_ret2
      exact RetIB.mk HV2.out (OwI.empty_ w _ (Nat.le_refl _)) ((Below.refl _ _).alloc (Nat.le_refl _) _)
    · have HV2 := Lib.hid (show tpR p = (rnL (tpL p), true) by rw [HV.out, if_neg h0])
      have f0 : ((p.length : Int) == 0) = false := beq_eq_false_iff_ne.2 (by omega)
      obtain ⟨n, hn⟩ : ∃ n, p.length = n + 1 := ⟨p.length - 1, by omega⟩
      obtain ⟨b, o, rfl, hb, hcl⟩ := hv0.at_ (by omega)
      have d0 := hcl n (by omega)
      obtain ⟨X, hX⟩ : ∃ X, X = p[n] := ⟨_, rfl⟩
      rw [← hX] at d0
      have HTL := Lib.hid (show tpL p = [X] ++ p.take n by
        have e : p.length - 1 = n := by omega
        unfold tpL; rw [e, getD_of (show n < p.length by omega), hX]; rfl)
      have hwr : IntKind.i64.wrap (n : Int) = (n : Int) := IntWalk.i64_in _ (by omega)
      have hw2 : (n : Int) + 1 - 1 = (n : Int) := by omega
      have g1 : (n : Int) < (n : Int) + 1 := by omega
      have hbX : Below w.heap.size w (w.drew.alloc (.cells #[.int .i64 X] 3)) := (below_draws w 1).alloc (Nat.le_refl _) _
      have hown : OwI (w.drew.alloc (.cells #[.int .i64 X] 3)) w.heap.size (.slice (some ⟨w.heap.size, 0, none⟩) 1 1) [X] := OwI.one w.drew X w.heap.size (Nat.le_refl _)
      have d0A : (w.alloc (.cells #[.int .i64 X] 3)).cell? ⟨b, o + n, none⟩ = some (.int .i64 X) := (((Below.refl _ _).alloc (Nat.le_refl _) _).cell (p := ⟨b, o + n, none⟩) hb).trans d0
      have hcc : ∀ j (h : j < (p.take n).length), (w.drew.alloc (.cells #[.int .i64 X] 3)).cell? ⟨b, o + j, none⟩ = some (.int .i64 (p.take n)[j]) := by
        intro j hj
        have hj' : j < n := by simp at hj; omega
        rw [(hbX.cell (p := ⟨b, o + j, none⟩) hb).trans (hcl j (by omega))]
        simp
      have htn : (p.take n).length = n := by simp; omega
      have hln : [X].length + n ≤ 1099511627776 := by simp; omega
      have hbs : w.heap.size ≤ (w.drew.alloc (.cells #[.int .i64 X] 3)).heap.size := hbX.size
      have hcap : n ≤ c := by omega
      have hcapI : (n : Int) ≤ (c : Int) := by omega
      have HV3 := Lib.hid (show rnR (tpL p) = tpR p by unfold rnR; rw [if_pos (by rw [tpL_len h0]; exact h8), HV2.out])
      have HCC := Lib.hid hcc
      clear hcl hcc
      have hN := hn
      rw [hn] at HP0 f0 hc
      rw [hn]
      clear hX
      go_enter Try.func91, Try.ntmps91
      go_wp2_with fail
      refine HP0.mono ?_; rintro e w' ⟨rfl, rfl⟩
      go_wp2_with fail
      go_region_law (first
        | refine step_appN (w.drew.alloc (.cells #[.int .i64 X] 3)) rfl (.tmp 18) (.tmp 23) rfl w.heap.size (.slice (some ⟨w.heap.size, 0, none⟩) 1 1) [X] (p.take n) (by simp [Act.eval]) hown b o n c (by simp [Act.eval]) htn HCC.out hln hbs ?_
          intro v' w2 o2 g2
          have hB2 : Below w.heap.size w w2 := hbX.grown g2 hbs (fun g hg => (hown.lt g hg).1)
          rw [← HTL.out] at o2
          clear g2
        | go_simp
          go_at_call 96
          refine (implRenumberBlocks_any _ _ _ o2.rd).mono ?_
          rintro e w3 ⟨r, rfl, o3, b3⟩)
      all_goals (
        go_wp2_with fail
        go_ret2
        exact RetIB.mk HV3.out.symm (o3.mono hB2.size) (below_then hB2 b3))
  · simp only [decide_eq_false hP] at HP0
    have HV := Lib.hid (show tpR p = ([], false) by unfold tpR; rw [if_neg hP])
    clear hP
    go_enter Try.func91, Try.ntmps91
    go_wp2_with fail
    refine HP0.mono ?_; rintro e w' ⟨rfl, rfl⟩
    go_wp2_with fail
    go_ret2
    exact RetIB.mk HV.out (OwI.empty_ w _ (Nat.le_refl _)) ((Below.refl _ _).alloc (Nat.le_refl _) _)
end Go.Proofs.Ytnkkgfeegaiakaa

/- Plain words for the law on partitions: what tests of all short paths and of all short partitions tell; renumbered blocks are a partition. No condition. -/
namespace Go.Proofs.Ytnkkgfeegaiakaa
theorem nextOf_app (p r : List Int) {k : Nat} (h : k ≤ p.length) : nextOf (p ++ r) k = nextOf p k := by
  unfold nextOf
  rw [List.take_append_of_le_length h]
theorem nextOf_nonneg (p : List Int) : ∀ k, k ≤ p.length → 0 ≤ nextOf p k := by
  intro k
  induction k with
  | zero => intro _; exact Int.le_refl _
  | succ k ih =>
    intro hk
    rw [nextOf_succ p k hk]
    have := ih (by omega)
    omega
theorem part_snoc {p : List Int} {v : Int} (h : PartP p) (hl : p.length < 8) (h0 : 0 ≤ v) (h1 : v ≤ nextOf p p.length) : PartP (p ++ [v]) ∧ nextOf (p ++ [v]) (p.length + 1) = max (nextOf p p.length) (v + 1) := by
  refine ⟨⟨by simp; omega, fun k hk => ?_⟩, ?_⟩
  · have hk1 : k < p.length + 1 := by simpa using hk
    unfold PartOk
    rw [getD_of hk, nextOf_app p [v] (by omega)]
    by_cases e : k < p.length
    · rw [List.getElem_append_left e]
      have := h.2 k e
      unfold PartOk at this
      rw [getD_of e] at this
      exact this
    · obtain rfl : k = p.length := by omega
      simp
      exact ⟨h0, h1⟩
  · rw [nextOf_succ _ _ (by simp), nextOf_app p [v] (Nat.le_refl _)]
    simp
theorem rn_part : ∀ (n : Nat) (l : List Int), l.length = n → n ≤ 8 → PartP (rnL l) ∧ nextOf (rnL l) n = (((nm l).length : Nat) : Int) := by
  intro n
  induction n with
  | zero =>
    intro l hl _
    obtain rfl := List.eq_nil_of_length_eq_zero hl
    exact ⟨⟨by simp [rnL], fun k hk => by simp [rnL] at hk⟩, rfl⟩
  | succ n ih =>
    intro l hl h8
    obtain ⟨y, x, rfl⟩ : ∃ y x, l = y ++ [x] := ⟨l.dropLast, l.getLast (by intro e; subst e; simp at hl), (List.dropLast_concat_getLast _).symm⟩
    have hy : y.length = n := by simpa using hl
    obtain ⟨h1, h2⟩ := ih y hy (by omega)
    have hlen : (rnL y).length = n := by rw [rnL_len, hy]
    by_cases hx : x ∈ nm y
    · obtain ⟨e1, e2⟩ := rnL_snoc_old hx
      rw [e1, e2]
      have hlt := ix_lt hx
      have := part_snoc (v := ((ix (nm y) x : Nat) : Int)) h1 (by omega) (by omega) (by rw [hlen, h2]; omega)
      rw [hlen, h2] at this
      refine ⟨this.1, this.2.trans ?_⟩
      omega
    · obtain ⟨e1, e2⟩ := rnL_snoc_new hx
      rw [e1, e2]
      have := part_snoc (v := (((nm y).length : Nat) : Int)) h1 (by omega) (by omega) (by rw [hlen, h2]; omega)
      rw [hlen, h2] at this
      refine ⟨this.1, this.2.trans ?_⟩
      rw [List.length_append, List.length_singleton]
      omega
theorem rnR_part {l : List Int} (h : (rnR l).2 = true) : PartP (rnR l).1 := by
  unfold rnR at *
  by_cases h8 : l.length ≤ 8
  · rw [if_pos h8]; exact (rn_part _ l rfl h8).1
  · rw [if_neg h8] at h; cases h
/-- the same question, asked faster -/
def nonF (p : List Int) : Bool := allB p.length fun a => allB p.length fun c => !(decide (a < c) && decide (p.getD a 0 = p.getD c 0)) || allB p.length fun b => !(decide (a < b) && (decide (b < c) && decide (p.getD a 0 ≠ p.getD b 0))) || allB p.length fun d => !(decide (c < d) && decide (p.getD b 0 = p.getD d 0))
theorem nonF_iff {p : List Int} : nonF p = true ↔ quadsB p = true := by
  unfold nonF
  rw [quadsB_iff]
  simp only [allB_iff, Bool.or_eq_true, Bool.not_eq_true', Bool.and_eq_false_iff, decide_eq_false_iff_not, QuadOk]
  constructor
  · intro h a ha b hb c hc d hd q1 q2 q3 ⟨e1, e2, e3⟩
    rcases h a ha c hc with (h | h) | h
    · omega
    · exact h e1
    · rcases h b hb with (h | (h | h)) | h
      · omega
      · omega
      · exact h e3
      · rcases h d hd with h | h
        · omega
        · exact h e2
  · intro h a ha c hc
    by_cases q : a < c ∧ p.getD a 0 = p.getD c 0
    · right
      intro b hb
      by_cases q2 : a < b ∧ b < c ∧ p.getD a 0 ≠ p.getD b 0
      · right
        intro d hd
        by_cases q3 : c < d ∧ p.getD b 0 = p.getD d 0
        · exact (h a ha b hb c hc d hd q2.1 q2.2.1 q3.1 ⟨q.2, q3.2, q2.2.2⟩).elim
        · by_cases q4 : c < d
          · exact .inr fun e => q3 ⟨q4, e⟩
          · exact .inl q4
      · left
        by_cases q4 : a < b
        · right
          by_cases q5 : b < c
          · exact .inr fun e => q2 ⟨q4, q5, e⟩
          · exact .inl q5
        · exact .inl q4
    · left
      by_cases q4 : a < c
      · exact .inr fun e => q ⟨q4, e⟩
      · exact .inl q4
theorem nonP_F (p : List Int) : decide (NonP p) = (decide (PartP p) && nonF p) := by
  by_cases h : NonP p
  · rw [decide_eq_true h, decide_eq_true h.1, nonF_iff.2 h.2]; rfl
  · rw [decide_eq_false h]
    by_cases h1 : PartP p
    · rw [decide_eq_true h1, Bool.true_and]
      cases h2 : nonF p with
      | false => rfl
      | true => exact absurd ⟨h1, nonF_iff.1 h2⟩ h
    · rw [decide_eq_false h1]; rfl
/-- turned n times -/
def turnsP : Nat → List Int → List Int
  | 0, p => p
  | n + 1, p => turnsP n (tpR p).1
def u8d8 : List UInt8 := List.replicate 8 cU ++ List.replicate 8 cD
theorem part_all {f : List Int → Bool} {m : Nat} (h : ((List.range m).all fun n => tstL candP f n []) = true) {p : List Int} (hp : PartP p) (hl : p.length < m) : f p = true :=
  part_tst (List.all_eq_true.1 h p.length (List.mem_range.2 hl)) hp rfl
theorem tpR_yes (p : List Int) : (tpR p).2 = decide (PartP p) := by
  unfold tpR
  by_cases h : PartP p
  · rw [if_pos h, decide_eq_true h]; split <;> rfl
  · rw [if_neg h, decide_eq_false h]
/-- the texts that the draws give: short ones, and six more -/
def Short (l : List UInt8) : Prop := l.length ≤ 13 ∨ l = u8d8
theorem path_tst {f : List UInt8 → Bool} (h : tstAll f 6 = true) (h8 : f u8d8 = true) {l : List UInt8} (hs : Short l) (hd : DyckP l) : f l = true := by
  rcases hs with hs | rfl
  · refine tstAll_sound h hd ?_
    have := dyck_half hd
    omega
  · exact h8
end Go.Proofs.Ytnkkgfeegaiakaa

/- What the draws of arguments leave: a text, a list of numbers, rows; from the cursor's world to the caller's. No condition. -/
namespace Go.Proofs.Ytnkkgfeegaiakaa
open Go.RowKit
def RetDI (w : World) (cb : Nat) (bs : List UInt8) (P : List Int → Prop) (e : Ending) (w' : World) : Prop := ∃ r xs, e = .returned r ∧ OwI w' w.heap.size r xs ∧ P xs ∧ CurAt w' cb bs ∧ w.grownBy w' (some cb)
def RetXI (w : World) (P : List Int → Prop) (e : Ending) (w' : World) : Prop := ∃ r xs, e = .returned r ∧ RdI w' r xs ∧ P xs ∧ Below w.heap.size w w'
def RetXT (w : World) (Q : ByteArray → Prop) (e : Ending) (w' : World) : Prop := ∃ s, e = .returned (.string s) ∧ Q s ∧ Below w.heap.size w w'
def RetDSS (w : World) (cb : Nat) (bs : List UInt8) (P : List (List Int) → Prop) (e : Ending) (w' : World) : Prop := ∃ r xs, e = .returned r ∧ RdSS w' r xs ∧ P xs ∧ CurAt w' cb bs ∧ w.grownBy w' (some cb)
def RetXSS (w : World) (P : List (List Int) → Prop) (e : Ending) (w' : World) : Prop := ∃ r xs, e = .returned r ∧ RdSS w' r xs ∧ P xs ∧ Below w.heap.size w w'
theorem below_cur {w w1 w2 : World} (b : Below w.heap.size w w1) (g : w1.grownBy w2 (some w.heap.size)) : Below w.heap.size w w2 :=
  b.trans ⟨g.os, g.tape, g.output, g.size, fun k hk => g.block k (Nat.lt_of_lt_of_le hk b.size) (by intro e; injection e with e; omega)⟩
theorem CurAt.below {w w' : World} {cb : Nat} {bs : List UInt8} (h : CurAt w cb bs) (hb : Below w.heap.size w w') : CurAt w' cb bs := h.grown (row := none) (grown_of_below hb) (fun r e => by cases e)
theorem grown_below {w w' : World} {cb : Nat} (hb : Below w.heap.size w w') : w.grownBy w' (some cb) := ⟨hb.os, hb.tape, hb.output, hb.size, fun k hk _ => hb.block k hk⟩
theorem OwI.cur {w w' : World} {base cb : Nat} {v : Value} {xs : List Int} (h : OwI w base v xs) (g : w.grownBy w' (some cb)) (hcb : cb < base) : OwI w' base v xs :=
  h.grown g (.inr fun e => by have := (h.lt cb e).1; omega)
/-- after a write to a row of blocks from base on -/
theorem grown_new {w a b : World} {cb base : Nat} {v : Value} (g : w.grownBy a (some cb)) (k : a.grownBy b v.ownBlock) (hv : ∀ r, v.ownBlock = some r → base ≤ r) (hb : w.heap.size ≤ base) : w.grownBy b (some cb) :=
  ⟨k.os.trans g.os, k.tape.trans g.tape, k.output.trans g.output, Nat.le_trans g.size k.size, fun r hr hne => (k.block r (Nat.lt_of_lt_of_le hr g.size) (fun e => by have := hv r e.symm; omega)).trans (g.block r hr hne)⟩
theorem CurAt.other {a b : World} {cb base : Nat} {bs : List UInt8} {v : Value} (h : CurAt a cb bs) (k : a.grownBy b v.ownBlock) (hv : ∀ r, v.ownBlock = some r → base ≤ r) (hb : cb < base) : CurAt b cb bs :=
  h.grown k (fun r e => by have := hv r e; omega)
theorem OwI.shapeP {w : World} {base : Nat} {v : Value} {xs : List Int} (h : OwI w base v xs) (hp : 0 < xs.length) : ∃ g cap, v = .slice (some ⟨g, 0, none⟩) xs.length cap ∧ base ≤ g := by
  rcases h.shape with ⟨_, e⟩ | ⟨g, cap, e, h1, _⟩
  · subst e; simp at hp
  · exact ⟨g, cap, e, h1⟩
theorem L_short {s : ByteArray} (h : TxtP s) (hd : DyckP (L s)) : Short (L s) := by
  rcases h with h | h
  · exact .inl (by rw [L_len]; exact h)
  · have hl : (L s).length ≤ 16 := hd.1
    simp only [six, List.mem_cons, List.not_mem_nil, or_false] at h
    rcases h with rfl | rfl | rfl | rfl | rfl | rfl
    · exact .inl (by decide)
    · exact .inl (by decide)
    · exact .inl (by decide)
    · exact .inl (by decide)
    · exact absurd hl (by decide)
    · exact .inr (by decide)
end Go.Proofs.Ytnkkgfeegaiakaa

/- Words for the walks of the laws: what a call leaves, spelled as the law compares it. No condition. -/
namespace Go.Proofs.Ytnkkgfeegaiakaa
open Go.RowKit
theorem retSB_to {P : Program} {f : FuncId} {args : Array Value} {w : World} {R : List UInt8 × Bool} {l : List UInt8} {s : ByteArray} {b : Bool} (h : Calls P f args w (RetSB w R)) (hR : R = (l, b)) (hs : S l = s) :
    Calls P f args w fun e w' => e = .returned (.tuple #[.string s, .bool b]) ∧ Below w.heap.size w w' := by
  subst hR; subst hs; exact h
theorem S_tl (l : List UInt8) : (S l).toList = l := by
  unfold S
  rw [ByteArray.toList_mk]
theorem RdI.shape {w : World} {v : Value} {xs : List Int} (h : RdI w v xs) : ∃ A c, v = .slice A xs.length c := by
  obtain ⟨A, c, e, _⟩ := h; exact ⟨A, c, e⟩
theorem RdSS.shape {w : World} {v : Value} {xs : List (List Int)} (h : RdSS w v xs) : ∃ A c, v = .slice A xs.length c := by
  obtain ⟨A, c, e, _⟩ := h; exact ⟨A, c, e⟩
end Go.Proofs.Ytnkkgfeegaiakaa

/- Contracts of the draws of paths: what is drawn is a path. Condition: the cursor. -/
namespace Go.Proofs.Ytnkkgfeegaiakaa
open Go.RowKit
theorem scan_snoc (l : List UInt8) (c : UInt8) : scan (l ++ [c]) = stepD (scan l) c := by rw [scan_append]; rfl
/-- what a call leaves that draws a path -/
def RetTD (w : World) (cb : Nat) (bs : List UInt8) (e : Ending) (w' : World) : Prop := ∃ l : List UInt8, e = .returned (.string (S l)) ∧ DyckP l ∧ l.length ≤ 12 ∧ CurAt w' cb bs ∧ w.grownBy w' (some cb)
structure Mid (n x y : Nat) (l : List UInt8) : Prop where
  len : l.length = x + y
  hx : x ≤ n
  hy : y ≤ n
  le : y ≤ x
  sc : scan l = some (x - y)
theorem Mid.up {n x y : Nat} {l : List UInt8} (h : Mid n x y l) (hx : x < n) : Mid n (x + 1) y (l ++ [117]) := by
  refine ⟨by rw [List.length_append, h.len]; show x + y + 1 = _; omega, by omega, h.hy, by have := h.le; omega, ?_⟩
  rw [scan_snoc, h.sc]
  show some (x - y + 1) = _
  have := h.le
  rw [show x + 1 - y = x - y + 1 by omega]
theorem Mid.down {n x y : Nat} {l : List UInt8} (h : Mid n x y l) (hy : y < n) (hyx : y < x) : Mid n x (y + 1) (l ++ [100]) := by
  refine ⟨by rw [List.length_append, h.len]; show x + y + 1 = _; omega, h.hx, by omega, by omega, ?_⟩
  rw [scan_snoc, h.sc]
  show (if x - y = 0 then none else some (x - y - 1)) = _
  rw [if_neg (by omega), show x - (y + 1) = x - y - 1 by omega]
set_option maxHeartbeats 1000000 in
theorem l2DrawD_any (cb n : Nat) (bs : List UInt8) (w : World) (hc : CurAt w cb bs) (hn : n ≤ 6) :
    Calls Try.prog 256 #[.pointer (some ⟨cb, 0, none⟩), .int .i64 (n : Int)] w (RetTD w cb bs) := by
  have G0 := World.grownBy.refl w (some cb)
  go_enter Try.func256, Try.ntmps256
  go_wp2_with fail
  go_loopw [5, 6, 7] (fun s u d wr => ∃ (l : List UInt8) (x y : Nat), s = .string (S l) ∧ u = .int .i64 (x : Int) ∧ d = .int .i64 (y : Int) ∧ Hid (Mid n x y l) ∧ CurAt wr cb bs ∧ w.grownBy wr (some cb)) (fun _ u d _ => 24 - ((intOf u).toNat + (intOf d).toNat))
  case atStart => exact ⟨[], 0, 0, rfl, rfl, rfl, Lib.hid ⟨rfl, by omega, by omega, by omega, rfl⟩, hc, G0⟩
  case round =>
    clear hc G0
    obtain ⟨l, x, y, rfl, rfl, rfl, HM, hc, hg⟩ := hrel
    have hl := HM.out.len
    have hx := HM.out.hx
    have hy := HM.out.hy
    have hyx := HM.out.le
    have hl12 : (S l).size ≤ 12 := by rw [S_size]; omega
    have HU := Lib.hid (S_snoc l 117)
    have HD := Lib.hid (S_snoc l 100)
    clear hl
    by_cases hyn : y < n
    · have hyni : (y : Int) < (n : Int) := by omega
      by_cases hxn : x < n
      · have hxni : (x : Int) < (n : Int) := by omega
        by_cases hxy : x = y
        · have f1 : ((x : Int) == (y : Int)) = true := beq_iff_eq.2 (by omega)
          clear hxy
          go_wp2_with fail
          go_roundw
          case rel => exact ⟨l ++ [117], x + 1, y, by rw [← HU.out], by go_num, rfl, Lib.hid (HM.out.up hxn), hc, hg⟩
          case measure => simp [intOf]; omega
        · have f1 : ((x : Int) == (y : Int)) = false := beq_eq_false_iff_ne.2 (by omega)
          have HO := Lib.hid (l1Once_any cb 2 bs wr hc (by omega) (by omega))
          have hyx2 : y < x := by omega
          clear hxy
          go_wp2_with (go_at_call 237; refine HO.out.mono ?_; rintro e w1 ⟨z, rfl, c1, g1⟩; have hg1 := grown_trans_row hg g1)
          · go_roundw
            case rel => exact ⟨l ++ [117], x + 1, y, by rw [← HU.out], by go_num, rfl, Lib.hid (HM.out.up hxn), c1, hg1⟩
            case measure => simp [intOf]; omega
          · go_roundw
            case rel => exact ⟨l ++ [100], x, y + 1, by rw [← HD.out], rfl, by go_num, Lib.hid (HM.out.down hyn hyx2), c1, hg1⟩
            case measure => simp [intOf]; omega
      · have hxni : ¬ (x : Int) < (n : Int) := by omega
        have hyx2 : y < x := by omega
        go_wp2_with fail
        go_roundw
        case rel => exact ⟨l ++ [100], x, y + 1, by rw [← HD.out], rfl, by go_num, Lib.hid (HM.out.down hyn hyx2), hc, hg⟩
        case measure => simp [intOf]; omega
    · have hyni : ¬ (y : Int) < (n : Int) := by omega
      have HE := Lib.hid (show DyckP l ∧ l.length ≤ 12 by
        have h1 := HM.out.len
        have h2 := HM.out.sc
        rw [show x - y = 0 by omega] at h2
        exact ⟨⟨by omega, h2⟩, by omega⟩)
      go_wp2_with fail
      go_ret
      exact ⟨l, rfl, HE.out.1, HE.out.2, hc, hg⟩
theorem l2PathD_any (cb : Nat) (bs : List UInt8) (w : World) (hc : CurAt w cb bs) : Calls Try.prog 236 #[.pointer (some ⟨cb, 0, none⟩)] w (RetTD w cb bs) := by
  go_enter Try.func236, Try.ntmps236
  go_wp2_with fail
  refine (l1Below_any cb 7 bs w hc (by omega) (by omega)).mono ?_; rintro e w1 ⟨x, rfl, hx, c1, g1⟩
  go_wp2_with fail
  refine (l2DrawD_any cb x bs w1 c1 (by omega)).mono ?_; rintro e w2 ⟨s, rfl, hs, hl, c2, g2⟩
  go_wp2_with fail
  go_ret
  exact ⟨s, rfl, hs, hl, c2, grown_trans_row g1 g2⟩
end Go.Proofs.Ytnkkgfeegaiakaa

/- Contract of l1Spoil for longer texts: some text, hardly longer. Condition: the cursor. -/
namespace Go.Proofs.Ytnkkgfeegaiakaa
open Go.RowKit
set_option maxRecDepth 8000 in
set_option maxHeartbeats 1600000 in
theorem l1SpoilM_any (m cb : Nat) (hm3 : 3 ≤ m + 1) (hm200 : m ≤ 200) (bs : List UInt8) (w : World) (hc : CurAt w cb bs) (s : ByteArray) (hs : s.size ≤ m) :
    Calls Try.prog 240 #[.pointer (some ⟨cb, 0, none⟩), .string s] w (RetT w cb bs (m + 1)) := by
  by_cases h0 : s.size = 0
  · have f0 : ((s.size : Int) == 0) = true := beq_iff_eq.2 (by omega)
    have HT := Lib.hid (l1Text_any cb bs w hc)
    clear h0
    go_enter Try.func240, Try.ntmps240
    go_wp2_with fail
    refine HT.out.mono ?_; rintro e w1 ⟨t, rfl, ht, c1, g1⟩
    go_wp2_with fail
    go_ret
    exact ⟨t, rfl, by omega, c1, g1⟩
  · have f0 : ((s.size : Int) == 0) = false := beq_eq_false_iff_ne.2 (by omega)
    have HB := Lib.hid (l1Below_any cb s.size bs w hc (by omega) (by omega))
    clear h0
    go_enter Try.func240, Try.ntmps240
    go_wp2_with fail
    refine HB.out.mono ?_; rintro e w1 ⟨k, rfl, hk, c1, g1⟩
    go_wp2_with fail
    refine (l1Below_any cb 4 bs w1 c1 (by omega) (by omega)).mono ?_; rintro e w2 ⟨v, rfl, hv, c2, g2⟩
    have G2 := Lib.hid (grown_trans_row g1 g2)
    have C2 := Lib.hid c2
    have hki : (k : Int) < (s.size : Int) := by omega
    have hkz : k < s.size := hk
    have hkl : k ≤ s.size := by omega
    have hkl1 : k + 1 ≤ s.size := by omega
    have e1 : (s.extract 0 k).size = k := by rw [ByteArray.size_extract]; omega
    have e2 : (s.extract (k + 1) s.size).size = s.size - (k + 1) := by rw [ByteArray.size_extract]; omega
    have e3 : (s.extract k s.size).size = s.size - k := by rw [ByteArray.size_extract]; omega
    clear c1 g1 c2 g2 HB
    by_cases v0 : v = 0
    · have f1 : ((v : Int) == 0) = true := beq_iff_eq.2 (by omega)
      clear v0
      go_wp2_with fail
      go_quiet (fail)
      go_wp2_with fail
      go_ret
      exact ⟨_, rfl, by rw [ByteArray.size_append]; omega, C2.out, grown_trans_row G2.out (grown_draws w2 _ _)⟩
    · have f0 : ((v : Int) == 0) = false := beq_eq_false_iff_ne.2 (by omega)
      by_cases v1 : v = 1
      · have f1 : ((v : Int) == 1) = true := beq_iff_eq.2 (by omega)
        clear v0 v1
        go_wp2_with fail
        go_region_law (
          go_simp
          go_at_call 241
          refine (l1Byte_any cb bs w2.drew C2.out).mono ?_
          rintro e w4 ⟨x, rfl, hx, c4, g4⟩
          obtain ⟨X, hX⟩ := u8_of x hx
          have hw8 : IntKind.u8.wrap (x : Int) = (x : Int) := IntWalk.u8_in _ (by omega)
          have hSX : (S [X]).size = 1 := by rw [S_size]; rfl
          have m1 : ¬ 9223372036854775807 < k + 1 := by omega
          have m2 : ¬ 9223372036854775807 < k + 1 + (s.size - k) := by omega
          have m3 : ¬ 9223372036854775807 < k + 1 + (s.size - (k + 1)) := by omega
          have hcv := convB1 w4 X (x : Int) hX)
        all_goals (
          go_wp2_with fail
          go_ret
          refine ⟨_, rfl, ?_, c4.grown (row := none) (World.grownBy_alloc w4 _ none) (fun r e => by cases e), grown_trans_row (grown_trans_row (grown_trans_row G2.out (grown_draws w2 1 _)) g4) (grown_alloc w4 _ _)⟩
          simp only [ByteArray.size_append, S_size, List.length_singleton]
          omega)
      · have f1 : ((v : Int) == 1) = false := beq_eq_false_iff_ne.2 (by omega)
        by_cases v2 : v = 2
        · have f2 : ((v : Int) == 2) = true := beq_iff_eq.2 (by omega)
          clear v0 v1 v2
          go_wp2_with fail
          go_ret
          exact ⟨_, rfl, by omega, C2.out, G2.out⟩
        · have f2 : ((v : Int) == 2) = false := beq_eq_false_iff_ne.2 (by omega)
          clear v0 v1 v2
          have p1 : IntKind.i64.wrap ((k : Int) + 1) = (k : Int) + 1 := IntWalk.i64_in _ (by omega)
          have p2 : ((k : Int) + 1).toNat = k + 1 := by omega
          have p3 : (0 : Int) ≤ (k : Int) + 1 := by omega
          have p4 : (k : Int) + 1 ≤ (s.size : Int) := by omega
          go_wp2_with fail
          go_region_law (
            go_simp
            go_at_call 188
            refine (l1Below_any cb 255 bs w2.drew C2.out (by omega) (by omega)).mono ?_
            rintro e w4 ⟨x, rfl, hx, c4, g4⟩
            have hcv := fun Z => convB1 w4 (xof Z) (IntKind.u8.wrap Z) (xof_eq Z)
            have hSX : ∀ Z, (S [xof Z]).size = 1 := fun Z => by rw [S_size]; rfl
            have m1 : ¬ 9223372036854775807 < k + 1 := by omega
            have m2 : ¬ 9223372036854775807 < k + 1 + (s.size - (k + 1)) := by omega
            have m3 : ¬ 9223372036854775807 < s.size := by omega)
          all_goals (
            go_wp2_with fail
            go_ret
            refine ⟨_, rfl, ?_, c4.grown (row := none) (World.grownBy_alloc w4 _ none) (fun r e => by cases e), grown_trans_row (grown_trans_row (grown_trans_row G2.out (grown_draws w2 1 _)) g4) (grown_alloc w4 _ _)⟩
            simp only [ByteArray.size_append, S_size, List.length_singleton]
            omega)
end Go.Proofs.Ytnkkgfeegaiakaa

/- Contracts of ReturnsOf and AreaOf, the program's and the reference's. No condition but the word's size. -/
namespace Go.Proofs.Ytnkkgfeegaiakaa
open Go.RowKit
theorem rtN_succ (l : List UInt8) (k : Nat) : rtN l (k + 1) = rtN l k + (rtF l k).toNat := cnt_succ _ _
theorem rtN_one (l : List UInt8) : rtN l 1 = 1 := by simp [rtN, cnt, sumTo, rtF, hN, scan]
theorem hoR_yes {l : List UInt8} (h : DyckP l) : hoR l = hL l l.length := if_pos h
theorem hL_at {l : List UInt8} {n i : Nat} (hi : i < (hL l n).length) : (hL l n)[i] = ((hN l i : Nat) : Int) := by simp [hL]
set_option maxHeartbeats 1000000 in
theorem specAreaOf_any (s : ByteArray) (w : World) (hs : s.size ≤ 1099511627776) :
    Calls Try.prog 194 #[.string s] w fun e w' => e = .returned (.int .i64 (areaV (L s))) ∧ Below w.heap.size w w' := by
  have HP0 := specHeightsOf_any s w hs
  by_cases hp : DyckP (L s)
  · have hl16 := hp.1
    rw [L_len] at hl16
    have HV := Lib.hid (show areaV (L s) = ((arN (L s) s.size : Nat) : Int) by unfold areaV; rw [if_pos hp, L_len])
    have HD := Lib.hid hp
    rw [hoR_yes hp, L_len] at HP0
    clear hp
    go_enter Try.func194, Try.ntmps194
    go_wp2_with fail
    refine HP0.mono ?_; rintro e w1 ⟨r, rfl, o1, b1⟩
    have hrl := hL_len (L s) s.size
    obtain ⟨g, cap, rfl, _, _⟩ : ∃ g cap, r = .slice (some ⟨g, 0, none⟩) (s.size + 1) cap ∧ True ∧ True := by
      rcases o1.shape with ⟨_, e⟩ | ⟨g, cap, e, _, _⟩
      · rw [e] at hrl; simp at hrl
      · exact ⟨g, cap, by rw [e, hrl], trivial, trivial⟩
    have HRL := Lib.hid hrl
    clear hrl HP0
    go_wp2_with fail
    go_loop [4, 5] (fun n i => ∃ k : Nat, k ≤ s.size ∧ i = .int .i64 k ∧ n = .int .i64 ((arN (L s) k : Nat) : Int)) (fun _ i => s.size - (intOf i).toNat)
    case atStart => exact ⟨0, by omega, rfl, rfl⟩
    case round =>
      obtain ⟨k, hk, rfl, rfl⟩ := hrel
      have hak := arN_le HD.out k (by rw [L_len]; exact hk)
      by_cases hlt : k < s.size
      · have hlL : k < (L s).length := by rw [L_len]; exact hlt
        have hg : (L s)[k] = s[k] := L_get s k hlt
        have c1 := o1.cellAt k (by rw [HRL.out]; omega)
        rw [hL_at] at c1
        have hhN := hN_le (L s) HD.out k (by omega)
        have HS := Lib.hid (arN_succ (L s) k)
        by_cases hu : s[k].toNat = 117
        · have f1 : (((s[k].toNat : Nat) : Int) == 117) = true := by simp; omega
          have HN := Lib.hid (show arN (L s) (k + 1) = arN (L s) k + hN (L s) k by rw [HS.out, if_pos (isU_of hlL (by rw [hg]; exact hu))])
          clear hu hg
          go_wp2_with fail
          go_round
          case rel => exact ⟨k + 1, by omega, by go_num, by rw [HN.out]; go_num⟩
          case measure => simp [intOf]; omega
        · have f1 : (((s[k].toNat : Nat) : Int) == 117) = false := by simp; omega
          have HN := Lib.hid (show arN (L s) (k + 1) = arN (L s) k by rw [HS.out, if_neg (by rw [isU_not hlL (by rw [hg]; exact hu)]; simp)]; rfl)
          clear hu hg
          go_wp2_with fail
          go_round
          case rel => exact ⟨k + 1, by omega, by go_num, by rw [HN.out]⟩
          case measure => simp [intOf]; omega
      · have hke : k = s.size := by omega
        subst hke
        have hne : ((s.size : Int) + 1 == 0) = false := beq_eq_false_iff_ne.2 (by omega)
        go_wp2_with fail
        go_ret
        exact ⟨ret_int HV.out.symm, b1⟩
  · have HV := Lib.hid (show areaV (L s) = -1 by unfold areaV; rw [if_neg hp])
    rw [show hoR (L s) = [] from if_neg hp] at HP0
    clear hp
    go_enter Try.func194, Try.ntmps194
    go_wp2_with fail
    refine HP0.mono ?_; rintro e w1 ⟨r, rfl, o1, b1⟩
    obtain ⟨rA, rc, rfl, _⟩ := id o1.rd
    go_wp2_with fail
    by_cases h0 : (0 : Int) < (s.size : Int)
    all_goals (
      refine wp_loop_rounds 1 ?_
      rw [rounds_succ]
      go_wp2_with fail
      go_ret
      exact ⟨ret_int HV.out.symm, b1⟩)
set_option maxHeartbeats 1000000 in
theorem implAreaOf_any (s : ByteArray) (w : World) :
    Calls Try.prog 55 #[.string s] w fun e w' => e = .returned (.int .i64 (areaV (L s))) ∧ Below w.heap.size w w' := by
  have HP0 := implIsDyck_any s w
  by_cases hp : DyckP (L s)
  · have hl16 := hp.1
    rw [L_len] at hl16
    have HV := Lib.hid (show areaV (L s) = ((arN (L s) s.size : Nat) : Int) by unfold areaV; rw [if_pos hp, L_len])
    have HO := Lib.hid (show hoR (L s) = hL (L s) s.size by rw [hoR_yes hp, L_len])
    have HD := Lib.hid hp
    simp only [decide_eq_true hp] at HP0
    clear hp
    go_enter Try.func55, Try.ntmps55
    go_wp2_with fail
    refine HP0.mono ?_; rintro e w1 ⟨rfl, b1⟩
    go_wp2_with fail
    refine (implHeightsOf_any s _).mono ?_; rintro e w2 ⟨r, rfl, o2, b2⟩
    rw [HO.out] at o2
    have B2 := below_then b1 b2
    have hrl := hL_len (L s) s.size
    obtain ⟨g, cap, rfl, _, _⟩ : ∃ g cap, r = .slice (some ⟨g, 0, none⟩) (s.size + 1) cap ∧ True ∧ True := by
      rcases o2.shape with ⟨_, e⟩ | ⟨g, cap, e, _, _⟩
      · rw [e] at hrl; simp at hrl
      · exact ⟨g, cap, by rw [e, hrl], trivial, trivial⟩
    have HRL := Lib.hid hrl
    clear hrl HP0
    go_wp2_with fail
    go_loop [3, 5] (fun n i => ∃ k : Nat, k ≤ s.size ∧ i = .int .i64 k ∧ n = .int .i64 ((arN (L s) k : Nat) : Int)) (fun _ i => s.size - (intOf i).toNat)
    case atStart => exact ⟨0, by omega, rfl, rfl⟩
    case round =>
      obtain ⟨k, hk, rfl, rfl⟩ := hrel
      have hak := arN_le HD.out k (by rw [L_len]; exact hk)
      by_cases hlt : k < s.size
      · have hlL : k < (L s).length := by rw [L_len]; exact hlt
        have hg : (L s)[k] = s[k] := L_get s k hlt
        have c1 := o2.cellAt k (by rw [HRL.out]; omega)
        rw [hL_at] at c1
        have hhN := hN_le (L s) HD.out k (by omega)
        have HS := Lib.hid (arN_succ (L s) k)
        by_cases hu : s[k].toNat = 117
        · have f1 : (((s[k].toNat : Nat) : Int) == 117) = true := by simp; omega
          have HN := Lib.hid (show arN (L s) (k + 1) = arN (L s) k + hN (L s) k by rw [HS.out, if_pos (isU_of hlL (by rw [hg]; exact hu))])
          clear hu hg
          go_wp2_with fail
          go_round
          case rel => exact ⟨k + 1, by omega, by go_num, by rw [HN.out]; go_num⟩
          case measure => simp [intOf]; omega
        · have f1 : (((s[k].toNat : Nat) : Int) == 117) = false := by simp; omega
          have HN := Lib.hid (show arN (L s) (k + 1) = arN (L s) k by rw [HS.out, if_neg (by rw [isU_not hlL (by rw [hg]; exact hu)]; simp)]; rfl)
          clear hu hg
          go_wp2_with fail
          go_round
          case rel => exact ⟨k + 1, by omega, by go_num, by rw [HN.out]⟩
          case measure => simp [intOf]; omega
      · have hke : k = s.size := by omega
        subst hke
        go_wp2_with fail
        go_ret
        exact ⟨ret_int HV.out.symm, B2⟩
  · have HV := Lib.hid (show areaV (L s) = -1 by unfold areaV; rw [if_neg hp])
    simp only [decide_eq_false hp] at HP0
    clear hp
    go_enter Try.func55, Try.ntmps55
    go_wp2_with fail
    refine HP0.mono ?_; rintro e w1 ⟨rfl, b1⟩
    go_wp2_with fail
    go_ret
    exact ⟨ret_int HV.out.symm, b1⟩
end Go.Proofs.Ytnkkgfeegaiakaa

/- Plain words on tableaux of two rows. No condition. -/
namespace Go.Proofs.Ytnkkgfeegaiakaa
/-- a place of one row: in range, and beyond the one ahead -/
def RowAt (n : Nat) (a : List Int) (i : Nat) : Prop := 1 ≤ a.getD i 0 ∧ a.getD i 0 ≤ 2 * n ∧ (0 < i → a.getD (i - 1) 0 < a.getD i 0)
instance (n : Nat) (a : List Int) (i : Nat) : Decidable (RowAt n a i) := by unfold RowAt; exact inferInstance
def RowsP (a b : List Int) : Prop := a.length = b.length ∧ a.length ≤ 8 ∧ (∀ i, i < a.length → RowAt a.length a i) ∧ (∀ i, i < a.length → RowAt a.length b i) ∧ (∀ i, i < a.length → a.getD i 0 < b.getD i 0) ∧
  ∀ i, i < a.length → ∀ k, k < a.length → a.getD i 0 ≠ b.getD k 0
instance (a b : List Int) : Decidable (RowsP a b) := by unfold RowsP; exact inferInstance
def rw_ (t : List (List Int)) (i : Nat) : List Int := t.getD i []
def TabP (t : List (List Int)) : Prop := t.length = 2 ∧ RowsP (rw_ t 0) (rw_ t 1)
instance (t : List (List Int)) : Decidable (TabP t) := by unfold TabP; exact inferInstance
theorem asc_lt {n : Nat} {a : List Int} (h : ∀ i, i < a.length → RowAt n a i) : ∀ j i, i < j → j < a.length → a.getD i 0 < a.getD j 0 := by
  intro j
  induction j with
  | zero => intro i hi; omega
  | succ j ih =>
    intro i hi hj
    have h1 := (h (j + 1) hj).2.2 (by omega)
    rw [Nat.add_sub_cancel] at h1
    rcases Nat.lt_or_ge i j with h2 | h2
    · exact Int.lt_trans (ih i h2 (by omega)) h1
    · rw [show i = j from by omega]; exact h1
/-- what the reference asks at row r, place i -/
def SpecAt (a b : List Int) (r i : Nat) : Prop := RowAt a.length (if r = 0 then a else b) i ∧ a.getD i 0 < b.getD i 0 ∧ ∀ k, k < a.length → a.getD i 0 ≠ b.getD k 0
theorem rowsP_spec {a b : List Int} (h1 : a.length = b.length) (h2 : a.length ≤ 8) : RowsP a b ↔ ∀ r, r < 2 → ∀ i, i < a.length → SpecAt a b r i := by
  constructor
  · rintro ⟨_, _, h3, h4, h5, h6⟩ r hr i hi
    refine ⟨?_, h5 i hi, h6 i hi⟩
    by_cases e : r = 0
    · rw [if_pos e]; exact h3 i hi
    · rw [if_neg e]; exact h4 i hi
  · intro h
    exact ⟨h1, h2, fun i hi => (h 0 (by omega) i hi).1, fun i hi => (h 1 (by omega) i hi).1, fun i hi => (h 0 (by omega) i hi).2.1, fun i hi => (h 0 (by omega) i hi).2.2⟩
/-- what the program asks: among the numbers before it none is equal -/
def accOf (a b : List Int) (r i : Nat) : List Int := if r = 0 then a.take i else a ++ b.take i
def ImplAt (a b : List Int) (r i : Nat) : Prop := RowAt a.length (if r = 0 then a else b) i ∧ (if r = 0 then a else b).getD i 0 ∉ accOf a b r i
theorem mem_take_getD {a : List Int} {i : Nat} {x : Int} (hi : i ≤ a.length) (h : x ∈ a.take i) : ∃ j, j < i ∧ a.getD j 0 = x := by
  obtain ⟨j, hj, e⟩ := List.mem_take_iff_getElem.1 h
  exact ⟨j, by omega, by rw [getD_of (by omega), e]⟩
theorem mem_getD {a : List Int} {x : Int} (h : x ∈ a) : ∃ j, j < a.length ∧ a.getD j 0 = x := by
  obtain ⟨j, hj, e⟩ := List.getElem_of_mem h
  exact ⟨j, hj, by rw [getD_of hj, e]⟩
theorem getD_mem {a : List Int} {j : Nat} (h : j < a.length) : a.getD j 0 ∈ a := by rw [getD_of h]; exact List.getElem_mem h
theorem rowsP_impl {a b : List Int} (h1 : a.length = b.length) (h2 : a.length ≤ 8) : RowsP a b ↔ (∀ r, r < 2 → ∀ i, i < a.length → ImplAt a b r i) ∧ ∀ i, i < a.length → a.getD i 0 < b.getD i 0 := by
  constructor
  · rintro ⟨_, _, h3, h4, h5, h6⟩
    refine ⟨fun r hr i hi => ?_, h5⟩
    by_cases e : r = 0
    · subst e
      refine ⟨h3 i hi, fun hm => ?_⟩
      obtain ⟨j, hj, e⟩ := mem_take_getD (by omega) hm
      have := asc_lt h3 i j hj hi
      simp only [if_true] at e
      omega
    · refine ⟨by rw [if_neg e]; exact h4 i hi, fun hm => ?_⟩
      rw [if_neg e] at hm
      unfold accOf at hm
      rw [if_neg e] at hm
      rcases List.mem_append.1 hm with hm | hm
      · obtain ⟨j, hj, e⟩ := mem_getD hm
        exact h6 j hj i hi e
      · obtain ⟨j, hj, e⟩ := mem_take_getD (by omega) hm
        have := asc_lt (n := a.length) (a := b) (fun k hk => h4 k (by omega)) i j hj (by omega)
        omega
  · rintro ⟨h, h5⟩
    refine ⟨h1, h2, fun i hi => (h 0 (by omega) i hi).1, fun i hi => (h 1 (by omega) i hi).1, h5, fun i hi k hk e => ?_⟩
    have hm := (h 1 (by omega) k hk).2
    apply hm
    simp only [accOf, if_neg (show ¬ (1 : Nat) = 0 from by omega)]
    rw [← e]
    exact List.mem_append_left _ (getD_mem hi)
end Go.Proofs.Ytnkkgfeegaiakaa

/- Plain words on the path of a tableau: the numbers of its two rows are all numbers up to twice its length. No condition. -/
namespace Go.Proofs.Ytnkkgfeegaiakaa
/-- different numbers below n are at most n -/
theorem nodup_le : ∀ (n : Nat) (l : List Nat), l.Nodup → (∀ x ∈ l, x < n) → l.length ≤ n := by
  intro n
  induction n with
  | zero =>
    intro l _ h
    cases l with
    | nil => simp
    | cons x l => exact absurd (h x (by simp)) (by omega)
  | succ n ih =>
    intro l hn h
    have h1 := ih (l.erase n) (hn.erase n) (fun x hx => by
      have h2 := (hn.mem_erase_iff).1 hx
      have := h x h2.2
      have := h2.1
      omega)
    have h2 : l.length ≤ (l.erase n).length + 1 := by
      rw [List.length_erase]
      split <;> omega
    omega
/-- n different numbers below n are all of them -/
theorem nodup_all {n : Nat} {l : List Nat} (hn : l.Nodup) (h : ∀ x ∈ l, x < n) (hl : l.length = n) : ∀ x, x < n → x ∈ l := by
  intro x hx
  rcases Classical.em (x ∈ l) with h1 | h1
  · exact h1
  · have := nodup_le n (x :: l) (List.nodup_cons.2 ⟨h1, hn⟩) (fun y hy => by
      rcases List.mem_cons.1 hy with e | e
      · rw [e]; exact hx
      · exact h y e)
    rw [List.length_cons] at this
    omega
theorem RowsP.bounds {a b : List Int} (h : RowsP a b) {i : Nat} (hi : i < a.length) : 1 ≤ a.getD i 0 ∧ a.getD i 0 ≤ 2 * (a.length : Int) ∧ 1 ≤ b.getD i 0 ∧ b.getD i 0 ≤ 2 * (a.length : Int) :=
  ⟨(h.2.2.1 i hi).1, (h.2.2.1 i hi).2.1, (h.2.2.2.1 i hi).1, (h.2.2.2.1 i hi).2.1⟩
theorem RowsP.asc {a b : List Int} (h : RowsP a b) {i j : Nat} (hij : i < j) (hj : j < a.length) : a.getD i 0 < a.getD j 0 ∧ b.getD i 0 < b.getD j 0 :=
  ⟨asc_lt h.2.2.1 j i hij hj, asc_lt (n := a.length) (a := b) (fun i hi => h.2.2.2.1 i (by rw [h.1]; exact hi)) j i hij (by rw [← h.1]; exact hj)⟩
/-- each number up to twice the length stands in one of the rows -/
theorem RowsP.cover {a b : List Int} (h : RowsP a b) {p : Nat} (hp : p < 2 * a.length) : (∃ i, i < a.length ∧ a.getD i 0 = (p : Int) + 1) ∨ (∃ i, i < a.length ∧ b.getD i 0 = (p : Int) + 1) := by
  have hA : ∀ i, i < a.length → a.getD i 0 = (((a.getD i 0).toNat - 1 : Nat) : Int) + 1 := fun i hi => by have := h.bounds hi; omega
  have hB : ∀ i, i < a.length → b.getD i 0 = (((b.getD i 0).toNat - 1 : Nat) : Int) + 1 := fun i hi => by have := h.bounds hi; omega
  let l : List Nat := (List.range a.length).map (fun i => (a.getD i 0).toNat - 1) ++ (List.range a.length).map (fun i => (b.getD i 0).toNat - 1)
  have hl : l.length = 2 * a.length := by simp [l]; omega
  have hm : ∀ x ∈ l, x < 2 * a.length := by
    intro x hx
    rcases List.mem_append.1 hx with hx | hx
    · obtain ⟨i, hi, rfl⟩ := List.mem_map.1 hx
      have := h.bounds (List.mem_range.1 hi); omega
    · obtain ⟨i, hi, rfl⟩ := List.mem_map.1 hx
      have := h.bounds (List.mem_range.1 hi); omega
  have hn : l.Nodup := by
    refine List.nodup_append.2 ⟨?_, ?_, ?_⟩
    · refine List.Pairwise.map _ (R := fun i j => i < j ∧ j < a.length) (fun i j hij => ?_) ?_
      · have h1 := h.bounds (show i < a.length by omega)
        have h2 := h.bounds hij.2
        have := (h.asc hij.1 hij.2).1
        intro e; omega
      · refine List.pairwise_iff_getElem.2 fun i j hi hj hij => ?_
        simp at hi hj ⊢; omega
    · refine List.Pairwise.map _ (R := fun i j => i < j ∧ j < a.length) (fun i j hij => ?_) ?_
      · have h1 := h.bounds (show i < a.length by omega)
        have h2 := h.bounds hij.2
        have := (h.asc hij.1 hij.2).2
        intro e; omega
      · refine List.pairwise_iff_getElem.2 fun i j hi hj hij => ?_
        simp at hi hj ⊢; omega
    · intro x hx y hy e
      obtain ⟨i, hi, rfl⟩ := List.mem_map.1 hx
      obtain ⟨j, hj, rfl⟩ := List.mem_map.1 hy
      have h1 := hA i (List.mem_range.1 hi)
      have h2 := hB j (List.mem_range.1 hj)
      exact h.2.2.2.2.2 i (List.mem_range.1 hi) j (List.mem_range.1 hj) (by omega)
  have := nodup_all hn hm hl p hp
  rcases List.mem_append.1 this with hx | hx
  · obtain ⟨i, hi, e⟩ := List.mem_map.1 hx
    have := hA i (List.mem_range.1 hi)
    exact .inl ⟨i, List.mem_range.1 hi, by omega⟩
  · obtain ⟨i, hi, e⟩ := List.mem_map.1 hx
    have := hB i (List.mem_range.1 hi)
    exact .inr ⟨i, List.mem_range.1 hi, by omega⟩
def potL (a : List Int) (m : Nat) : List UInt8 := (List.range m).map fun (i : Nat) => if (i : Int) + 1 ∈ a then 117 else 100
theorem potL_len (a : List Int) (m : Nat) : (potL a m).length = m := by simp [potL]
theorem potL_succ (a : List Int) (m : Nat) : potL a (m + 1) = potL a m ++ [if (m : Int) + 1 ∈ a then 117 else 100] := by simp [potL, List.range_succ]
def potR (t : List (List Int)) : List UInt8 × Bool := if TabP t then (potL (rw_ t 0) (2 * (rw_ t 0).length), true) else ([], false)
/-- what the program fills in -/
def fillW (a b : List Int) (i : Nat) : List UInt8 := (List.range i).foldl (fun w i => (w.set (a.getD i 0 - 1).toNat 117).set (b.getD i 0 - 1).toNat 100) (List.replicate (2 * a.length) 0)
theorem fillW_succ (a b : List Int) (i : Nat) : fillW a b (i + 1) = ((fillW a b i).set (a.getD i 0 - 1).toNat 117).set (b.getD i 0 - 1).toNat 100 := by simp [fillW, List.range_succ]
theorem fillW_len (a b : List Int) (i : Nat) : (fillW a b i).length = 2 * a.length := by
  induction i with
  | zero => simp [fillW]
  | succ i ih => rw [fillW_succ]; simp [ih]
theorem fillW_at {a b : List Int} (h : RowsP a b) : ∀ i, i ≤ a.length → (∀ j, j < i → (fillW a b i).getD (a.getD j 0 - 1).toNat 0 = 117) ∧ ∀ j, j < i → (fillW a b i).getD (b.getD j 0 - 1).toNat 0 = 100 := by
  intro i
  induction i with
  | zero => intro _; exact ⟨fun j hj => by omega, fun j hj => by omega⟩
  | succ i ih =>
    intro hi
    obtain ⟨h1, h2⟩ := ih (by omega)
    have hb := h.bounds (show i < a.length by omega)
    have hl := fillW_len a b i
    have set_get : ∀ (l : List UInt8) (k x : Nat) (c : UInt8), (l.set k c).getD x 0 = if k = x ∧ k < l.length then c else l.getD x 0 := by
      intro l k x c
      simp only [List.getD, List.getElem?_set]
      by_cases e : k = x
      · subst e
        by_cases hk : k < l.length
        · simp [hk]
        · simp [hk]
      · simp [e]
    rw [fillW_succ]
    refine ⟨fun j hj => ?_, fun j hj => ?_⟩
    · have hbj := h.bounds (show j < a.length by omega)
      have hne := h.2.2.2.2.2 j (by omega) i (by omega)
      rw [set_get, if_neg (fun e => hne (by omega)), set_get]
      by_cases e : (a.getD i 0 - 1).toNat = (a.getD j 0 - 1).toNat
      · rw [if_pos ⟨e, by rw [hl]; omega⟩]
      · rw [if_neg (fun x => e x.1)]
        refine h1 j ?_
        rcases Nat.lt_or_ge j i with q | q
        · exact q
        · exact absurd (by rw [show j = i from by omega]) e
    · have hbj := h.bounds (show j < a.length by omega)
      have hne := h.2.2.2.2.2 i (by omega) j (by omega)
      rw [set_get]
      by_cases e : (b.getD i 0 - 1).toNat = (b.getD j 0 - 1).toNat
      · rw [if_pos ⟨e, by rw [List.length_set, hl]; omega⟩]
      · rw [if_neg (fun x => e x.1), set_get, if_neg (fun x => hne (by omega))]
        refine h2 j ?_
        rcases Nat.lt_or_ge j i with q | q
        · exact q
        · exact absurd (by rw [show j = i from by omega]) e
theorem fillW_all {a b : List Int} (h : RowsP a b) : fillW a b a.length = potL a (2 * a.length) := by
  obtain ⟨h1, h2⟩ := fillW_at h a.length (Nat.le_refl _)
  apply List.ext_getElem
  · rw [fillW_len, potL_len]
  · intro p hp hp'
    rw [fillW_len] at hp
    have e : (fillW a b a.length)[p] = (fillW a b a.length).getD p 0 := (getD_of (by rw [fillW_len]; exact hp) 0).symm
    rw [e]
    simp only [potL, List.getElem_map, List.getElem_range]
    rcases h.cover hp with ⟨i, hi, ei⟩ | ⟨i, hi, ei⟩
    · have := h1 i hi
      rw [ei, show ((p : Int) + 1 - 1).toNat = p by omega] at this
      rw [this, if_pos]
      rw [← ei]; exact getD_mem hi
    · have := h2 i hi
      rw [ei, show ((p : Int) + 1 - 1).toNat = p by omega] at this
      rw [this, if_neg]
      intro hm
      obtain ⟨j, hj, ej⟩ := mem_getD hm
      exact h.2.2.2.2.2 j hj i hi (by rw [ej, ei])
end Go.Proofs.Ytnkkgfeegaiakaa

/- Plain words on the tableau of a path: the places of its letters. No condition. -/
namespace Go.Proofs.Ytnkkgfeegaiakaa
def tuL (l : List UInt8) (k : Nat) : List Int := (List.range k).flatMap fun (i : Nat) => if (l.getD i 0).toNat = 117 then [(i : Int) + 1] else []
def tdL (l : List UInt8) (k : Nat) : List Int := (List.range k).flatMap fun (i : Nat) => if (l.getD i 0).toNat = 117 then [] else [(i : Int) + 1]
theorem tuL_succ {l : List UInt8} {k : Nat} (h : k < l.length) : tuL l (k + 1) = tuL l k ++ (if l[k].toNat = 117 then [(k : Int) + 1] else []) := by
  simp only [tuL, List.range_succ, List.flatMap_append, List.flatMap_cons, List.flatMap_nil, List.append_nil, getD_of h]
theorem tdL_succ {l : List UInt8} {k : Nat} (h : k < l.length) : tdL l (k + 1) = tdL l k ++ (if l[k].toNat = 117 then [] else [(k : Int) + 1]) := by
  simp only [tdL, List.range_succ, List.flatMap_append, List.flatMap_cons, List.flatMap_nil, List.append_nil, getD_of h]
theorem flat_le {f : Nat → List Int} (hf : ∀ i, (f i).length ≤ 1) : ∀ k, ((List.range k).flatMap f).length ≤ k := by
  intro k
  induction k with
  | zero => simp
  | succ k ih =>
    rw [List.range_succ, List.flatMap_append, List.length_append, List.flatMap_cons, List.flatMap_nil, List.append_nil]
    have := hf k
    omega
theorem tuL_len (l : List UInt8) (k : Nat) : (tuL l k).length ≤ k := flat_le (fun i => by split <;> simp) k
theorem tdL_len (l : List UInt8) (k : Nat) : (tdL l k).length ≤ k := flat_le (fun i => by split <;> simp) k
def tabR (l : List UInt8) : List (List Int) × Bool := if DyckP l then ([tuL l l.length, tdL l l.length], true) else ([], false)
end Go.Proofs.Ytnkkgfeegaiakaa

/- Plain words on a path gone back, and on the path of a tableau: both are paths. No condition. -/
namespace Go.Proofs.Ytnkkgfeegaiakaa
def flipC (c : UInt8) : UInt8 := if c.toNat = 117 then 100 else 117
def revD (l : List UInt8) : List UInt8 := (l.reverse).map flipC
def revT (l : List UInt8) (m : Nat) : List UInt8 := revD (l.drop m)
theorem revT_full (l : List UInt8) : revT l l.length = [] := by simp [revT, revD]
theorem revT_zero (l : List UInt8) : revT l 0 = revD l := by simp [revT]
theorem revT_pred {l : List UInt8} {m : Nat} (h : m < l.length) : revT l m = revT l (m + 1) ++ [flipC l[m]] := by
  unfold revT revD
  rw [drop_get_cons _ _ h, List.reverse_cons, List.map_append]; rfl
theorem revT_len (l : List UInt8) (m : Nat) : (revT l m).length = l.length - m := by simp [revT, revD]
def rvR (l : List UInt8) : List UInt8 × Bool := if DyckP l then (revD l, true) else ([], false)
theorem rev_fold : ∀ (l : List UInt8) (a b : Nat), l.foldl stepD (some a) = some b → (revD l).foldl stepD (some b) = some a := by
  intro l
  induction l with
  | nil => intro a b h; simpa [revD] using h.symm
  | cons c l ih =>
    intro a b h
    rw [List.foldl_cons] at h
    have e : revD (c :: l) = revD l ++ [flipC c] := by simp [revD]
    rw [e, List.foldl_append]
    cases hs : stepD (some a) c with
    | none => rw [hs, scan_none] at h; cases h
    | some a' =>
      rw [hs] at h
      rw [ih a' b h]
      simp only [List.foldl_cons, List.foldl_nil]
      simp only [stepD] at hs
      split at hs
      · rename_i hu
        injection hs with hs
        unfold flipC
        rw [if_pos hu]
        subst hs
        simp [stepD]
      · rename_i hu
        split at hs
        · split at hs
          · cases hs
          · injection hs with hs
            unfold flipC
            rw [if_neg hu]
            subst hs
            simp [stepD]; omega
        · cases hs
theorem rev_dyck {l : List UInt8} (h : DyckP l) : DyckP (revD l) := by
  refine ⟨by simp [revD]; exact h.1, ?_⟩
  exact rev_fold l 0 0 h.2
/-- counts of a rising row -/
theorem cnt_step {n : Nat} {f : Nat → Int} (h : ∀ i j, i < j → j < n → f i < f j) (m : Int) :
    cnt n (fun i => decide (f i ≤ m + 1)) = cnt n (fun i => decide (f i ≤ m)) + (if ∃ i, i < n ∧ f i = m + 1 then 1 else 0) := by
  induction n with
  | zero => simp [cnt, sumTo]
  | succ n ih =>
    rw [cnt_succ, cnt_succ, ih (fun i j hij hj => h i j hij (by omega))]
    by_cases he : f n = m + 1
    · have h1 : ¬ ∃ i, i < n ∧ f i = m + 1 := fun ⟨i, hi, e⟩ => by have := h i n hi (by omega); omega
      have h2 : ∃ i, i < n + 1 ∧ f i = m + 1 := ⟨n, by omega, he⟩
      rw [if_neg h1, if_pos h2, decide_eq_true (show f n ≤ m + 1 by omega), decide_eq_false (show ¬ f n ≤ m by omega)]; rfl
    · have h3 : (decide (f n ≤ m + 1)) = decide (f n ≤ m) := by
        by_cases h4 : f n ≤ m
        · rw [decide_eq_true h4, decide_eq_true (by omega)]
        · rw [decide_eq_false h4, decide_eq_false (by omega)]
      have h5 : (∃ i, i < n + 1 ∧ f i = m + 1) ↔ ∃ i, i < n ∧ f i = m + 1 := ⟨fun ⟨i, hi, e⟩ => by
        rcases Nat.lt_or_ge i n with q | q
        · exact ⟨i, q, e⟩
        · rw [show i = n by omega] at e; exact absurd e he, fun ⟨i, hi, e⟩ => ⟨i, by omega, e⟩⟩
      rw [h3]
      by_cases h6 : ∃ i, i < n ∧ f i = m + 1
      · rw [if_pos h6, if_pos (h5.2 h6)]; omega
      · rw [if_neg h6, if_neg (fun x => h6 (h5.1 x))]; omega
theorem cnt_mono {n : Nat} {f g : Nat → Bool} (h : ∀ i, i < n → f i = true → g i = true) : cnt n f ≤ cnt n g := by
  induction n with
  | zero => exact Nat.le_refl _
  | succ n ih =>
    rw [cnt_succ, cnt_succ]
    have h1 := ih (fun i hi => h i (by omega))
    have h2 : (f n).toNat ≤ (g n).toNat := by
      rcases hf : f n with _ | _
      · simp
      · rw [h n (by omega) hf]; exact Nat.le_refl _
    omega
theorem cnt_all {n : Nat} {f : Nat → Bool} (h : ∀ i, i < n → f i = true) : cnt n f = n := by
  induction n with
  | zero => rfl
  | succ n ih => rw [cnt_succ, ih (fun i hi => h i (by omega)), h n (by omega)]; rfl
theorem pot_scan {a b : List Int} (h : RowsP a b) : ∀ m : Nat, m ≤ 2 * a.length → scan (potL a m) = some (cnt a.length (fun i => decide (a.getD i 0 ≤ (m : Int))) - cnt a.length (fun i => decide (b.getD i 0 ≤ (m : Int)))) := by
  intro m
  induction m with
  | zero =>
    intro _
    have h1 : cnt a.length (fun i => decide (a.getD i 0 ≤ ((0 : Nat) : Int))) = 0 := cnt_none fun i hi => decide_eq_false (by have := h.bounds hi; omega)
    rw [h1]; simp [potL, scan]
  | succ m ih =>
    intro hm
    have hA := cnt_step (n := a.length) (f := fun i => a.getD i 0) (fun i j hij hj => (h.asc hij hj).1) (m : Int)
    have hB := cnt_step (n := a.length) (f := fun i => b.getD i 0) (fun i j hij hj => (h.asc hij hj).2) (m : Int)
    have hle : cnt a.length (fun i => decide (b.getD i 0 ≤ ((m + 1 : Nat) : Int))) ≤ cnt a.length (fun i => decide (a.getD i 0 ≤ ((m + 1 : Nat) : Int))) := cnt_mono fun i hi hb => by
      have := h.2.2.2.2.1 i hi
      have hb := of_decide_eq_true hb
      exact decide_eq_true (by omega)
    have hle0 : cnt a.length (fun i => decide (b.getD i 0 ≤ (m : Int))) ≤ cnt a.length (fun i => decide (a.getD i 0 ≤ (m : Int))) := cnt_mono fun i hi hb => by
      have := h.2.2.2.2.1 i hi
      have hb := of_decide_eq_true hb
      exact decide_eq_true (by omega)
    have hc : ((m + 1 : Nat) : Int) = (m : Int) + 1 := by omega
    rw [hc] at hle ⊢
    rw [potL_succ, scan_append, ih (by omega)]
    simp only [List.foldl_cons, List.foldl_nil]
    rcases h.cover (p := m) (by omega) with hx | hx
    · have hy : ¬ ∃ i, i < a.length ∧ b.getD i 0 = (m : Int) + 1 := fun ⟨j, hj, ej⟩ => by
        obtain ⟨i, hi, ei⟩ := hx
        exact h.2.2.2.2.2 i hi j hj (by rw [ei, ej])
      have hmem : (m : Int) + 1 ∈ a := by
        obtain ⟨i, hi, ei⟩ := hx
        rw [← ei]; exact getD_mem hi
      rw [if_pos hx] at hA
      rw [if_neg hy] at hB
      rw [if_pos hmem]
      show some _ = some _
      congr 1
      omega
    · have hy : ¬ ∃ i, i < a.length ∧ a.getD i 0 = (m : Int) + 1 := fun ⟨j, hj, ej⟩ => by
        obtain ⟨i, hi, ei⟩ := hx
        exact h.2.2.2.2.2 j hj i hi (by rw [ei, ej])
      have hmem : ¬ (m : Int) + 1 ∈ a := fun hm => by
        obtain ⟨j, hj, ej⟩ := mem_getD hm
        exact hy ⟨j, hj, ej⟩
      rw [if_neg hy] at hA
      rw [if_pos hx] at hB
      rw [if_neg hmem]
      show (if _ = 0 then none else some _) = some _
      rw [if_neg (by omega)]
      congr 1
      omega
theorem pot_dyck {a b : List Int} (h : RowsP a b) : DyckP (potL a (2 * a.length)) := by
  refine ⟨by rw [potL_len]; have := h.2.1; omega, ?_⟩
  rw [pot_scan h _ (Nat.le_refl _)]
  have h1 : cnt a.length (fun i => decide (a.getD i 0 ≤ ((2 * a.length : Nat) : Int))) = a.length := cnt_all fun i hi => decide_eq_true (by have := h.bounds hi; omega)
  have h2 : cnt a.length (fun i => decide (b.getD i 0 ≤ ((2 * a.length : Nat) : Int))) = a.length := cnt_all fun i hi => decide_eq_true (by have := h.bounds hi; omega)
  rw [h1, h2]; simp
def evaR (t : List (List Int)) : List (List Int) × Bool := if TabP t then tabR (revD (potL (rw_ t 0) (2 * (rw_ t 0).length))) else ([], false)
theorem evaR_yes {t : List (List Int)} (h : TabP t) : (evaR t).2 = true := by
  unfold evaR tabR
  rw [if_pos h, if_pos (rev_dyck (pot_dyck h.2))]
end Go.Proofs.Ytnkkgfeegaiakaa

/- Contracts of ReversePath, the program's and the reference's: both return the same text and bool. No condition but the word's size. -/
namespace Go.Proofs.Ytnkkgfeegaiakaa
open Go.RowKit
set_option maxHeartbeats 1000000 in
theorem specReversePath_any (s : ByteArray) (w : World) (hs : s.size ≤ 1099511627776) :
    Calls Try.prog 181 #[.string s] w (RetSB w (rvR (L s))) := by
  by_cases hp : DyckP (L s)
  · have hl16 := hp.1
    rw [L_len] at hl16
    have HV := Lib.hid (show rvR (L s) = (revT (L s) 0, true) by unfold rvR; rw [if_pos hp, revT_zero])
    have HI : Hid (∀ wq, Calls Try.prog 183 #[.string s] wq fun e w' => e = .returned (.bool true) ∧ wq = w') := fun wq => (specIsDyck_any s wq hs).mono fun e w' h => ⟨by rw [h.1]; simp [hp], h.2⟩
    have HF := Lib.hid (show revT (L s) s.size = [] by rw [← L_len]; exact revT_full _)
    clear hp
    go_enter Try.func181, Try.ntmps181
    go_wp2_with fail
    go_loop [4, 5] (fun x i => ∃ m : Nat, m ≤ s.size ∧ i = .int .i64 ((m : Int) - 1) ∧ x = .string (S (revT (L s) m))) (fun _ i => (intOf i + 1).toNat)
    case atStart => exact ⟨s.size, by omega, rfl, by rw [HF.out]; rfl⟩
    case round =>
      obtain ⟨m, hm, rfl, rfl⟩ := hrel
      rcases m with _ | n
      · have f1 : ¬ (0 : Int) ≤ ((0 : Nat) : Int) - 1 := by omega
        go_wp2_with (go_at_call 183; refine (HI.out _).mono ?_; rintro e w' ⟨rfl, rfl⟩)
        go_ret2
        exact RetSB.mk HV.out rfl (Below.refl _ _)
      · have hlt : n < s.size := by omega
        have HS := Lib.hid (revT_pred (l := L s) (m := n) (by rw [L_len]; exact hlt))
        have hsz : (S (revT (L s) (n + 1))).size ≤ 16 := by rw [S_size, revT_len, L_len]; omega
        rw [show (((n + 1 : Nat) : Int) - 1) = (n : Int) by omega]
        have HR := Lib.hid (show ((n : Int) - 1) = (n : Int) - 1 from rfl)
        have hn0 : (0 : Int) ≤ (n : Int) := by omega
        by_cases hu : s[n].toNat = 117
        · have f1 : (((s[n].toNat : Nat) : Int) == 117) = true := by simp; omega
          have HC := Lib.hid (show S (revT (L s) (n + 1)) ++ ⟨#[100]⟩ = S (revT (L s) n) by rw [S_snoc, HS.out]; congr 2; unfold flipC; rw [L_get s n hlt, if_pos hu])
          clear hu
          go_wp2_with (go_at_call 183; refine (HI.out _).mono ?_; rintro e w' ⟨rfl, rfl⟩)
          go_round
          case rel => exact ⟨n, by omega, rfl, by rw [HC.out]⟩
          case measure => simp [intOf]
        · have f1 : (((s[n].toNat : Nat) : Int) == 117) = false := by simp; omega
          have HC := Lib.hid (show S (revT (L s) (n + 1)) ++ ⟨#[117]⟩ = S (revT (L s) n) by rw [S_snoc, HS.out]; congr 2; unfold flipC; rw [L_get s n hlt, if_neg hu])
          clear hu
          go_wp2_with (go_at_call 183; refine (HI.out _).mono ?_; rintro e w' ⟨rfl, rfl⟩)
          go_round
          case rel => exact ⟨n, by omega, rfl, by rw [HC.out]⟩
          case measure => simp [intOf]
  · have HV := Lib.hid (show rvR (L s) = ([], false) by unfold rvR; rw [if_neg hp])
    have HI : Hid (∀ wq, Calls Try.prog 183 #[.string s] wq fun e w' => e = .returned (.bool false) ∧ wq = w') := fun wq => (specIsDyck_any s wq hs).mono fun e w' h => ⟨by rw [h.1]; simp [hp], h.2⟩
    clear hp
    go_enter Try.func181, Try.ntmps181
    go_wp2_with fail
    by_cases h0 : (0 : Int) ≤ (s.size : Int) - 1
    all_goals (
      refine wp_loop_rounds 1 ?_
      rw [rounds_succ]
      go_wp2_with (go_at_call 183; refine (HI.out _).mono ?_; rintro e w' ⟨rfl, rfl⟩)
      go_ret2
      exact RetSB.mk HV.out rfl (Below.refl _ _))
set_option maxHeartbeats 1000000 in
theorem implReversePath_any (s : ByteArray) (w : World) :
    Calls Try.prog 180 #[.string s] w (RetSB w (rvR (L s))) := by
  have HP0 := implIsDyck_any s w
  by_cases hp : DyckP (L s)
  · have hl16 := hp.1
    rw [L_len] at hl16
    simp only [decide_eq_true hp] at HP0
    have HV := Lib.hid (show rvR (L s) = (revT (L s) 0, true) by unfold rvR; rw [if_pos hp, revT_zero])
    have HF := Lib.hid (show revT (L s) s.size = [] by rw [← L_len]; exact revT_full _)
    clear hp
    go_enter Try.func180, Try.ntmps180
    go_wp2_with fail
    refine HP0.mono ?_; rintro e w1 ⟨rfl, b1⟩
    have own0 := OwR.emptyB w1 w.heap.size b1.size
    have hB0 : Below w.heap.size w (w1.alloc (.cells #[] 5)) := b1.alloc b1.size _
    go_wp2_with fail
    generalize w1.alloc (.cells #[] 5) = w2 at own0 hB0 ⊢
    go_loopw [4, 5] (fun x i wr => ∃ m : Nat, m ≤ s.size ∧ i = .int .i64 ((m : Int) - 1) ∧ OwR 5 bf wr w.heap.size x (revT (L s) m) ∧ Below w.heap.size w wr) (fun _ i _ => (intOf i + 1).toNat)
    case atStart => exact ⟨s.size, by omega, rfl, by rw [HF.out]; exact own0, hB0⟩
    case round =>
      clear own0 hB0
      obtain ⟨m, hm, rfl, hx, hB⟩ := hrel
      have hsz := hB.size
      rcases m with _ | n
      · have f1 : ¬ (0 : Int) ≤ ((0 : Nat) : Int) - 1 := by omega
        have kc := conv_row hx
        go_wp2_with fail
        go_ret2
        exact RetSB.mk HV.out rfl hB
      · have hlt : n < s.size := by omega
        have HS := Lib.hid (revT_pred (l := L s) (m := n) (by rw [L_len]; exact hlt))
        have hlen : (revT (L s) (n + 1)).length < 1099511627776 := by rw [revT_len, L_len]; omega
        rw [show (((n + 1 : Nat) : Int) - 1) = (n : Int) by omega]
        have hn0 : (0 : Int) ≤ (n : Int) := by omega
        by_cases hu : s[n].toNat = 117
        · have f1 : (((s[n].toNat : Nat) : Int) == 117) = true := by simp; omega
          have HC := Lib.hid (show revT (L s) n = revT (L s) (n + 1) ++ [100] by rw [HS.out]; congr 2; unfold flipC; rw [L_get s n hlt, if_pos hu])
          clear hu
          go_wp2_with (at_builtin; refine wpList_appB _ rfl _ _ rfl w.heap.size _ _ rfl hx 100 _ rfl rfl rfl hlen hsz ?_)
          intro v' w3 hx3 hg3 hat3
          have hB3 := below_of_own hB hg3 hsz (fun g hg => (hx.lt g hg).1)
          clear hx hg3 hat3
          go_wp2_with fail
          go_roundw
          case rel => exact ⟨n, by omega, rfl, by rw [HC.out]; exact hx3, hB3⟩
          case measure => simp [intOf]
        · have f1 : (((s[n].toNat : Nat) : Int) == 117) = false := by simp; omega
          have HC := Lib.hid (show revT (L s) n = revT (L s) (n + 1) ++ [117] by rw [HS.out]; congr 2; unfold flipC; rw [L_get s n hlt, if_neg hu])
          clear hu
          go_wp2_with (at_builtin; refine wpList_appB _ rfl _ _ rfl w.heap.size _ _ rfl hx 117 _ rfl rfl rfl hlen hsz ?_)
          intro v' w3 hx3 hg3 hat3
          have hB3 := below_of_own hB hg3 hsz (fun g hg => (hx.lt g hg).1)
          clear hx hg3 hat3
          go_wp2_with fail
          go_roundw
          case rel => exact ⟨n, by omega, rfl, by rw [HC.out]; exact hx3, hB3⟩
          case measure => simp [intOf]
  · simp only [decide_eq_false hp] at HP0
    have HV := Lib.hid (show rvR (L s) = ([], false) by unfold rvR; rw [if_neg hp])
    clear hp
    go_enter Try.func180, Try.ntmps180
    go_wp2_with fail
    refine HP0.mono ?_; rintro e w1 ⟨rfl, b1⟩
    go_wp2_with fail
    go_ret2
    exact RetSB.mk HV.out rfl b1
end Go.Proofs.Ytnkkgfeegaiakaa
