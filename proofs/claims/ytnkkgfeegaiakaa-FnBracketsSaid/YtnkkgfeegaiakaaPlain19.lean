/- Plain words on the partition of a path: blocks by runs of d, taken off a stack or looked up at the partners. No condition. -/
import Derived.Test.YtnkkgfeegaiakaaPlain6
import Derived.Test.YtnkkgfeegaiakaaPlain14
namespace Go.Proofs.Ytnkkgfeegaiakaa
theorem nm_map {f : Int → Int} (hf : ∀ x y, f x = f y → x = y) (l : List Int) : nm (l.map f) = (nm l).map f := by
  have h : ∀ (l acc : List Int), (l.map f).foldl nmStep (acc.map f) = (l.foldl nmStep acc).map f := by
    intro l
    induction l with
    | nil => intro acc; rfl
    | cons x l ih =>
      intro acc
      rw [List.map_cons, List.foldl_cons, List.foldl_cons, ← ih]
      congr 1
      unfold nmStep
      by_cases h : x ∈ acc
      · rw [if_pos h, if_pos (List.mem_map.2 ⟨x, h, rfl⟩)]
      · rw [if_neg h, if_neg]
        · simp
        · intro h2
          obtain ⟨y, hy, e⟩ := List.mem_map.1 h2
          exact h (hf y x e ▸ hy)
  exact h l []
theorem ix_map {f : Int → Int} (hf : ∀ x y, f x = f y → x = y) (l : List Int) (x : Int) : ix (l.map f) (f x) = ix l x := by
  induction l with
  | nil => rfl
  | cons a l ih =>
    rw [List.map_cons]
    simp only [ix]
    by_cases h : a = x
    · rw [if_pos h, if_pos (by rw [h])]
    · rw [if_neg h, if_neg (fun e => h (hf _ _ e)), ih]
theorem rnL_map {f : Int → Int} (hf : ∀ x y, f x = f y → x = y) (l : List Int) : rnL (l.map f) = rnL l := by
  unfold rnL
  rw [nm_map hf, List.map_map]
  apply List.map_congr_left
  intro x _
  simp only [Function.comp]
  rw [ix_map hf]
def isU (l : List UInt8) (x : Nat) : Bool := decide ((l.getD x 0).toNat = 117)
def isD (l : List UInt8) (x : Nat) : Bool := decide ((l.getD x 0).toNat = 100)
/-- the peaks ahead of a place -/
def pkB (l : List UInt8) (x : Nat) : Bool := decide (1 ≤ x) && (isD l x && isU l (x - 1))
def pkN (l : List UInt8) (k : Nat) : Nat := cnt k (pkB l)
def br (l : List UInt8) (k : Nat) : Nat := (decide (0 < k) && (decide (k < l.length) && (isD l (k - 1) && isD l k))).toNat
theorem isU_of {l : List UInt8} {k : Nat} (hk : k < l.length) (hu : l[k].toNat = 117) : isU l k = true := by unfold isU; rw [getD_of hk]; simp [hu]
theorem isD_not {l : List UInt8} {k : Nat} (hk : k < l.length) (hu : l[k].toNat = 117) : isD l k = false := by unfold isD; rw [getD_of hk]; simp [hu]
theorem isD_of {l : List UInt8} {k : Nat} (hd : DyckP l) (hk : k < l.length) (hu : ¬ l[k].toNat = 117) : isD l k = true := by
  unfold isD; rw [getD_of hk]; simpa using (dyck_letter hd hk).resolve_left hu
theorem isU_not {l : List UInt8} {k : Nat} (hk : k < l.length) (hu : ¬ l[k].toNat = 117) : isU l k = false := by unfold isU; rw [getD_of hk]; simpa using hu
theorem isD_isU {l : List UInt8} (hd : DyckP l) {k : Nat} (hk : k < l.length) : isD l k = !isU l k := by
  by_cases hu : l[k].toNat = 117
  · rw [isD_not hk hu, isU_of hk hu]; rfl
  · rw [isD_of hd hk hu, isU_not hk hu]; rfl
/-- the reference's stack -/
def qoF (l : List UInt8) (s : PoS) (i : Nat) : PoS := if (l.getD i 0).toNat = 117 then ⟨s.p, s.st ++ [(s.n : Int)], s.n + 1, s.k⟩ else ⟨s.p.set (s.st.getLastD 0).toNat (s.k : Int), s.st.dropLast, s.n, if i + 1 = l.length ∨ isU l (i + 1) = true then s.k + 1 else s.k⟩
def qoS (l : List UInt8) (k : Nat) : PoS := (List.range k).foldl (qoF l) ⟨List.replicate (l.length / 2) 0, [], 0, 0⟩
theorem qoS_succ (l : List UInt8) (k : Nat) : qoS l (k + 1) = qoF l (qoS l k) k := by simp [qoS, List.range_succ]
theorem cu_take_succ {l : List UInt8} {k : Nat} (hk : k < l.length) : cu (l.take (k + 1)) = cu (l.take k) + (if l[k].toNat = 117 then 1 else 0) := by
  rw [List.take_succ_eq_append_getElem hk, cu_append]
  congr 1
  by_cases h : l[k].toNat = 117 <;> simp [cu, h]
theorem cu_mono {l : List UInt8} : ∀ {i j : Nat}, i ≤ j → j ≤ l.length → cu (l.take i) ≤ cu (l.take j) := by
  intro i j hij
  induction hij with
  | refl => intro _; exact Nat.le_refl _
  | @step m h ih =>
    intro hj
    have := ih (by omega)
    have h2 := cu_take_succ (l := l) (k := m) hj
    show cu (l.take i) ≤ cu (l.take (m + 1))
    omega
theorem cu_lt {l : List UInt8} {i j : Nat} (hij : i < j) (hj : j ≤ l.length) (hu : (l[i]'(by omega)).toNat = 117) : cu (l.take i) < cu (l.take j) := by
  have h1 := cu_mono (l := l) (show i + 1 ≤ j from hij) hj
  have h2 := cu_take_succ (l := l) (k := i) (by omega)
  rw [if_pos hu] at h2
  omega
structure QInv (l : List UInt8) (k : Nat) (s : PoS) (pt : PtS) : Prop where
  is : qoS l k = s
  pi : PtInv l k pt
  len : s.p.length = l.length / 2
  st : s.st = pt.st.map fun j => ((cu (l.take j.toNat) : Nat) : Int)
  cn : s.n = cu (l.take k)
  nx : s.k + br l k = pkN l k
  up : ∀ j ∈ pt.st, ∃ i : Nat, j = (i : Int) ∧ ∃ h : i < l.length, l[i].toNat = 117 ∧ i < k
  done : ∀ i (h : i < l.length), i < k → l[i].toNat = 117 → (∃ j, Pr l i j ∧ j < k ∧ ∃ v : Nat, s.p.getD (cu (l.take i)) 0 = (v : Int) ∧ v + 1 = pkN l (j + 1)) ∨ ((i : Int) ∈ pt.st)
theorem QInv.start (l : List UInt8) : QInv l 0 ⟨List.replicate (l.length / 2) 0, [], 0, 0⟩ ⟨List.replicate l.length 0, []⟩ :=
  ⟨rfl, PtInv.start l, by simp, rfl, by simp [cu], by simp [br, pkN, cnt, sumTo], by simp, fun i h hi => by omega⟩
theorem pkN_succ (l : List UInt8) (k : Nat) : pkN l (k + 1) = pkN l k + (pkB l k).toNat := cnt_succ _ _
theorem QInv.up_ {l : List UInt8} {k : Nat} {s : PoS} {pt : PtS} (h : QInv l k s pt) (hd : DyckP l) (hk : k < l.length) (hu : l[k].toNat = 117) : QInv l (k + 1) ⟨s.p, s.st ++ [(s.n : Int)], s.n + 1, s.k⟩ ⟨pt.out, pt.st ++ [(k : Int)]⟩ := by
  refine ⟨by rw [qoS_succ, h.is]; unfold qoF; rw [getD_of hk, if_pos hu], h.pi.up hd hk hu, h.len, ?_, ?_, ?_, ?_, fun i hi hik hiu => ?_⟩
  · show s.st ++ [(s.n : Int)] = (pt.st ++ [(k : Int)]).map _
    rw [List.map_append, ← h.st]; simp [h.cn]
  · show s.n + 1 = _
    rw [cu_take_succ hk, if_pos hu, h.cn]
  · show s.k + br l (k + 1) = _
    have h1 := h.nx
    have b0 : br l k = 0 := by unfold br; rw [isD_not hk hu]; simp
    have b1 : br l (k + 1) = 0 := by unfold br; rw [show k + 1 - 1 = k from rfl, isD_not hk hu]; simp
    have p1 : pkB l k = false := by unfold pkB; rw [isD_not hk hu]; simp
    rw [pkN_succ, p1]
    simp
    omega
  · intro j hj
    rcases List.mem_append.1 hj with hj | hj
    · obtain ⟨i, h1, h2, h3, h4⟩ := h.up j hj
      exact ⟨i, h1, h2, h3, by omega⟩
    · rw [List.mem_singleton.1 hj]
      exact ⟨k, rfl, hk, hu, by omega⟩
  · rcases Nat.lt_or_ge i k with hl | hl
    · rcases h.done i hi hl hiu with ⟨j, h1, h2, h3⟩ | h1
      · exact .inl ⟨j, h1, by omega, h3⟩
      · exact .inr (List.mem_append_left _ h1)
    · obtain rfl : i = k := by omega
      exact .inr (by simp)
theorem QInv.down_ {l : List UInt8} {k : Nat} {s : PoS} {pt : PtS} (h : QInv l k s pt) (hd : DyckP l) (hk : k < l.length) (hu : ¬ l[k].toNat = 117) {ys : List Int} {j : Nat} (e : pt.st = ys ++ [(j : Int)]) (hj : j < k) (ha : Arc l j k) :
    QInv l (k + 1) ⟨s.p.set (cu (l.take j)) (s.k : Int), s.st.dropLast, s.n, if k + 1 = l.length ∨ isU l (k + 1) = true then s.k + 1 else s.k⟩ ⟨(pt.out.set k (j : Int)).set j (k : Int), ys⟩ := by
  have hst := h.st
  rw [e, List.map_append, List.map_cons, List.map_nil, Int.toNat_natCast] at hst
  have hg : s.st.getLastD 0 = ((cu (l.take j) : Nat) : Int) := by rw [hst]; simp
  have hdl : s.st.dropLast = ys.map fun j => ((cu (l.take j.toNat) : Nat) : Int) := by rw [hst]; simp
  obtain ⟨hjl, hju⟩ := ha.left hd
  have hk0 : 0 < k := by omega
  have hpkk : s.k + 1 = pkN l (k + 1) := by
    have h1 := h.nx
    have hD := isD_isU hd (show k - 1 < l.length by omega)
    have b0 : br l k = (isD l (k - 1)).toNat := by unfold br; rw [isD_of hd hk hu]; simp [hk0, hk]
    have p1 : pkB l k = isU l (k - 1) := by unfold pkB; rw [isD_of hd hk hu]; simp; omega
    rw [pkN_succ, p1]
    rw [b0, hD] at h1
    generalize pkN l k = P at h1 ⊢
    generalize s.k = K at h1 ⊢
    generalize isU l (k - 1) = X at h1 ⊢
    cases X
    · simp only [Bool.not_false, Bool.toNat_true, Bool.toNat_false] at h1 ⊢; omega
    · simp only [Bool.not_true, Bool.toNat_true, Bool.toNat_false] at h1 ⊢; omega
  refine ⟨by rw [qoS_succ, h.is]; unfold qoF; rw [getD_of hk, if_neg hu, hg, Int.toNat_natCast], h.pi.down hd hk hu e hj ha, by simpa using h.len, hdl, ?_, ?_, ?_, fun i hi hik hiu => ?_⟩
  · show s.n = _
    rw [cu_take_succ hk, if_neg hu, h.cn]; rfl
  · show (if k + 1 = l.length ∨ isU l (k + 1) = true then s.k + 1 else s.k) + br l (k + 1) = _
    rw [← hpkk]
    have hDk := isD_of hd hk hu
    by_cases h1 : k + 1 = l.length
    · rw [if_pos (.inl h1)]
      have : br l (k + 1) = 0 := by unfold br; rw [decide_eq_false (show ¬ k + 1 < l.length by omega)]; simp
      omega
    · have hk1 : k + 1 < l.length := by omega
      have hD1 := isD_isU hd hk1
      have hb : br l (k + 1) = (isD l (k + 1)).toNat := by unfold br; rw [show k + 1 - 1 = k from rfl, hDk]; simp [hk1]
      rw [hb, hD1]
      by_cases h2 : isU l (k + 1) = true
      · rw [if_pos (.inr h2), h2]; rfl
      · rw [if_neg (by simp [h1, h2])]
        have : isU l (k + 1) = false := by simpa using h2
        rw [this]; rfl
  · intro x hx
    obtain ⟨i, h1, h2, h3, h4⟩ := h.up x (by rw [e]; exact List.mem_append_left _ hx)
    exact ⟨i, h1, h2, h3, by omega⟩
  · have hcl : cu (l.take j) < s.p.length := by
      rw [h.len]
      have h1 := cu_lt (l := l) hjl (Nat.le_refl _) hju
      have h2 := dyck_half hd
      rw [List.take_length] at h1
      omega
    have hik' : i ≠ k := fun e => hu (by subst e; exact hiu)
    by_cases hij : i = j
    · subst hij
      refine .inl ⟨k, .inl ha, by omega, s.k, ?_, hpkk⟩
      show (s.p.set (cu (l.take i)) (s.k : Int)).getD _ 0 = _
      rw [getD_of (by rw [List.length_set]; exact hcl), List.getElem_set_self]
    · have hne : cu (l.take j) ≠ cu (l.take i) := by
        rcases Nat.lt_or_ge i j with h1 | h1
        · have := cu_lt (l := l) h1 (by omega) hiu; omega
        · have := cu_lt (l := l) (show j < i by omega) (by omega) hju; omega
      have he : (s.p.set (cu (l.take j)) (s.k : Int)).getD (cu (l.take i)) 0 = s.p.getD (cu (l.take i)) 0 := by
        simp only [List.getD]
        rw [List.getElem?_set_ne hne]
      rcases h.done i hi (by omega) hiu with ⟨q, h1, h2, v, h3, h4⟩ | h1
      · exact .inl ⟨q, h1, by omega, v, he.trans h3, h4⟩
      · rw [e] at h1
        rcases List.mem_append.1 h1 with h1 | h1
        · exact .inr h1
        · have : (i : Int) = (j : Int) := by simpa using h1
          exact absurd (by omega) hij
theorem QInv.all {l : List UInt8} (hd : DyckP l) : ∀ k, k ≤ l.length → ∃ pt, QInv l k (qoS l k) pt := by
  intro k
  induction k with
  | zero => intro _; exact ⟨_, QInv.start l⟩
  | succ k ih =>
    intro hk
    obtain ⟨pt, h⟩ := ih (by omega)
    rcases Nat.decEq (l[k]'hk).toNat 117 with hu | hu
    · obtain ⟨ys, j, e, hj, ha⟩ := h.pi.top hd hk hu
      have := h.down_ hd hk hu e hj ha
      exact ⟨_, by rw [this.is]; exact this⟩
    · have := h.up_ hd hk hu
      exact ⟨_, by rw [this.is]; exact this⟩
theorem Pr.uniq {l : List UInt8} (hd : DyckP l) {i j j' : Nat} (h : Pr l i j) (h' : Pr l i j') : j = j' := by
  rcases h with h | h
  · obtain ⟨hi, hu⟩ := h.left hd
    rcases h' with h' | h'
    · rcases Nat.lt_trichotomy j j' with q | q | q
      · have := h'.2.2.2 (j + 1) (by have := h.1; omega) (by omega)
        have := h.2.2.1
        omega
      · exact q
      · have := h.2.2.2 (j' + 1) (by have := h'.1; omega) (by omega)
        have := h'.2.2.1
        omega
    · obtain ⟨_, hu'⟩ := h'.right hd
      exact absurd hu hu'
  · obtain ⟨hi, hu⟩ := h.right hd
    rcases h' with h' | h'
    · obtain ⟨_, hu'⟩ := h'.left hd
      exact absurd hu' hu
    · rcases Nat.lt_trichotomy j j' with q | q | q
      · have h1 := h.2.2.2 j' q (by have := h'.1; omega)
        have := h.2.2.1
        have := h'.2.2.1
        omega
      · exact q
      · have h1 := h'.2.2.2 j q (by have := h.1; omega)
        have := h.2.2.1
        have := h'.2.2.1
        omega
/-- the program's list -/
def iL (l : List UInt8) (k : Nat) : List Int := (List.range k).flatMap fun i => if isU l i = true then [((pkN l (((prt l).getD i 0).toNat + 1) : Nat) : Int)] else []
theorem iL_succ (l : List UInt8) (k : Nat) : iL l (k + 1) = iL l k ++ (if isU l k = true then [((pkN l (((prt l).getD k 0).toNat + 1) : Nat) : Int)] else []) := by simp [iL, List.range_succ]
theorem iL_is {l : List UInt8} (hd : DyckP l) : ∀ k, k ≤ l.length → iL l k = ((qoS l l.length).p.map (fun x => x + 1)).take (cu (l.take k)) := by
  obtain ⟨pt, h⟩ := QInv.all hd l.length (Nat.le_refl _)
  have hlen := h.len
  have hfin : pt.st = [] := by
    have := h.pi.ht
    rw [hN_end hd] at this
    exact List.eq_nil_of_length_eq_zero this.symm
  have hhalf := dyck_half hd
  intro k
  induction k with
  | zero => intro _; simp [iL, cu]
  | succ k ih =>
    intro hk
    rw [iL_succ, ih (by omega), cu_take_succ hk]
    by_cases hu : (l[k]'hk).toNat = 117
    · rw [if_pos (isU_of hk hu), if_pos hu]
      have hcl := cu_lt (l := l) hk (Nat.le_refl _) hu
      rw [List.take_length] at hcl
      have hcl2 : cu (l.take k) < ((qoS l l.length).p.map (fun x => x + 1)).length := by rw [List.length_map, hlen]; omega
      rw [List.take_succ_eq_append_getElem hcl2]
      congr 2
      rcases h.done k hk hk hu with ⟨j, h1, h2, v, h3, h4⟩ | h1
      · obtain ⟨j', h5, h6⟩ := prt_at hd hk
        have := h1.uniq hd h6
        subst this
        rw [h5, Int.toNat_natCast, ← h4, List.getElem_map]
        rw [getD_of (by rw [List.length_map] at hcl2; exact hcl2)] at h3
        rw [h3]; simp
      · rw [hfin] at h1; cases h1
    · rw [if_neg (by rw [isU_not hk hu]; simp), if_neg hu]; simp
theorem iL_all {l : List UInt8} (hd : DyckP l) : iL l l.length = (qoS l l.length).p.map (fun x => x + 1) := by
  obtain ⟨pt, h⟩ := QInv.all hd l.length (Nat.le_refl _)
  have hhalf := dyck_half hd
  rw [iL_is hd _ (Nat.le_refl _), List.take_length, List.take_of_length_le]
  rw [List.length_map, h.len]; omega
def parR (l : List UInt8) : List Int × Bool := if DyckP l then (rnL (qoS l l.length).p, true) else ([], false)
theorem parR_impl {l : List UInt8} (hd : DyckP l) : rnR (iL l l.length) = (rnL (qoS l l.length).p, true) := by
  obtain ⟨pt, h⟩ := QInv.all hd l.length (Nat.le_refl _)
  rw [iL_all hd]
  unfold rnR
  rw [if_pos, rnL_map (fun x y e => by omega)]
  rw [List.length_map, h.len]
  have := hd.1
  omega
/-- the numbers of peaks, as the program lays them down -/
def rl (l : List UInt8) (k : Nat) : List Int := (List.range l.length).map fun i => if i < k then ((pkN l (i + 1) : Nat) : Int) else 0
theorem rl_len (l : List UInt8) (k : Nat) : (rl l k).length = l.length := by simp [rl]
theorem pkN_one (l : List UInt8) : pkN l 1 = 0 := by simp [pkN, cnt, sumTo, pkB]
theorem rl_one (l : List UInt8) : rl l 1 = List.replicate l.length 0 := by
  apply List.ext_getElem
  · simp [rl]
  · intro i h1 h2
    simp only [rl, List.getElem_map, List.getElem_range, List.getElem_replicate]
    split
    · rw [show i = 0 by omega, pkN_one]; rfl
    · rfl
theorem rl_set (l : List UInt8) (k : Nat) : (rl l k).set k ((pkN l (k + 1) : Nat) : Int) = rl l (k + 1) := by
  apply List.ext_getElem
  · simp [rl]
  · intro i h1 h2
    rw [List.getElem_set]
    simp only [rl, List.getElem_map, List.getElem_range]
    by_cases e : k = i
    · subst e; simp
    · rw [if_neg e]
      by_cases h : i < k
      · rw [if_pos h, if_pos (by omega)]
      · rw [if_neg h, if_neg (by omega)]
theorem rl_get {l : List UInt8} {k i : Nat} (hi : i < l.length) (hk : i < k) : (rl l k)[i]'(by rw [rl_len]; exact hi) = ((pkN l (i + 1) : Nat) : Int) := by
  simp [rl, hk]
theorem pkN_le (l : List UInt8) (k : Nat) : pkN l k ≤ k := cnt_le _ _
theorem pkB_eq {l : List UInt8} {k : Nat} (h1 : 1 ≤ k) (hk : k < l.length) : pkB l k = (decide (l[k].toNat = 100) && decide ((l[k - 1]'(by omega)).toNat = 117)) := by
  unfold pkB isD isU
  rw [getD_of hk, getD_of (show k - 1 < l.length by omega)]
  simp [h1]
end Go.Proofs.Ytnkkgfeegaiakaa
