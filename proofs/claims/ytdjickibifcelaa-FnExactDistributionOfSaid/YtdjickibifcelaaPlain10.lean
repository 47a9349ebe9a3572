/- Plain words on the permutation of a path: a stack, letter by letter. No condition. -/
import Derived.Test.YtdjickibifcelaaPlain7
namespace Go.Proofs.Ytdjickibifcelaa
structure PoS where
  p : List Int
  st : List Int
  n : Nat
  k : Nat
def poF (s : PoS) (c : UInt8) : PoS := if c.toNat = 117 then ⟨s.p, s.st ++ [(s.n : Int)], s.n + 1, s.k⟩ else ⟨s.p.set (s.st.getLastD 0).toNat (s.k : Int), s.st.dropLast, s.n, s.k + 1⟩
def poS (l : List UInt8) (k : Nat) : PoS := (l.take k).foldl poF ⟨List.replicate (l.length / 2) 0, [], 0, 0⟩
theorem poS_succ (l : List UInt8) (k : Nat) (h : k < l.length) : poS l (k + 1) = poF (poS l k) l[k] := by
  unfold poS
  rw [List.take_succ_eq_append_getElem h, List.foldl_append]; rfl
def poR (l : List UInt8) : List Int × Bool := if DyckP l then ((poS l l.length).p, true) else ([], false)
/-- in a path each letter is u or d, and there is height ahead of each d -/
theorem dyck_letter {l : List UInt8} (h : DyckP l) {k : Nat} (hk : k < l.length) : l[k].toNat = 117 ∨ l[k].toNat = 100 := by
  rcases Nat.decEq l[k].toNat 117 with hu | hu
  · rcases Nat.decEq l[k].toNat 100 with hd | hd
    · have : scan l = none := by
        apply scan_stop (k := k + 1)
        rw [scan_succ _ _ hk]
        cases hs : scan (l.take k) with
        | none => rfl
        | some t => simp [stepD, hu, hd]
      rw [h.2] at this; cases this
    · exact .inr hd
  · exact .inl hu
theorem dyck_some {l : List UInt8} (h : DyckP l) (k : Nat) : ∃ t, scan (l.take k) = some t := by
  cases hs : scan (l.take k) with
  | none => have := scan_stop hs; rw [h.2] at this; cases this
  | some t => exact ⟨t, rfl⟩
theorem dyck_pos {l : List UInt8} (h : DyckP l) {k t : Nat} (hk : k < l.length) (hd : ¬ l[k].toNat = 117) (ht : scan (l.take k) = some t) : t ≠ 0 ∧ scan (l.take (k + 1)) = some (t - 1) := by
  have hd' : l[k].toNat = 100 := (dyck_letter h hk).resolve_left hd
  have hs := scan_succ l k hk
  rw [ht] at hs
  by_cases h0 : t = 0
  · subst h0
    simp [stepD, hd'] at hs
    have := scan_stop hs
    rw [h.2] at this; cases this
  · refine ⟨h0, ?_⟩
    rw [hs]; simp [stepD, hd', h0]
theorem dyck_up {l : List UInt8} {k t : Nat} (hk : k < l.length) (hu : l[k].toNat = 117) (ht : scan (l.take k) = some t) : scan (l.take (k + 1)) = some (t + 1) := by
  rw [scan_succ l k hk, ht]; simp [stepD, hu]
/-- what holds ahead of each letter -/
structure PoInv (l : List UInt8) (k : Nat) (s : PoS) : Prop where
  is : poS l k = s
  len : s.p.length = l.length / 2
  ht : scan (l.take k) = some s.st.length
  mem : ∀ x ∈ s.st, 0 ≤ x ∧ x < (l.length / 2 : Nat)
  cnt : s.n = cu (l.take k)
  kle : s.k ≤ k
theorem PoInv.start (l : List UInt8) : PoInv l 0 ⟨List.replicate (l.length / 2) 0, [], 0, 0⟩ := ⟨rfl, by simp, rfl, by simp, by simp [cu], Nat.le_refl _⟩
theorem PoInv.n_lt {l : List UInt8} {k : Nat} {s : PoS} (h : PoInv l k s) (hd : DyckP l) (hk : k < l.length) (hu : l[k].toNat = 117) : s.n < l.length / 2 := by
  have h1 := cu_take_le l (k + 1)
  have h2 := dyck_half hd
  rw [List.take_succ_eq_append_getElem hk, cu_append] at h1
  have e : cu [l[k]] = 1 := by simp [cu, hu]
  have := h.cnt
  omega
theorem PoInv.up {l : List UInt8} {k : Nat} {s : PoS} (h : PoInv l k s) (hd : DyckP l) (hk : k < l.length) (hu : l[k].toNat = 117) : PoInv l (k + 1) ⟨s.p, s.st ++ [(s.n : Int)], s.n + 1, s.k⟩ := by
  have hn := h.n_lt hd hk hu
  refine ⟨by rw [poS_succ l k hk, h.is]; simp [poF, hu], h.len, by rw [dyck_up hk hu h.ht]; simp, fun x hx => ?_, ?_, Nat.le_succ_of_le h.kle⟩
  · rcases List.mem_append.1 hx with hx | hx
    · exact h.mem x hx
    · simp at hx; subst hx; exact ⟨by omega, by omega⟩
  · rw [List.take_succ_eq_append_getElem hk, cu_append]
    have e : cu [l[k]] = 1 := by simp [cu, hu]
    have := h.cnt
    simp only
    omega
theorem PoInv.nonempty {l : List UInt8} {k : Nat} {s : PoS} (h : PoInv l k s) (hd : DyckP l) (hk : k < l.length) (hu : ¬ l[k].toNat = 117) : ∃ (ys : List Int) (x : Int), s.st = ys ++ [x] ∧ 0 ≤ x ∧ x < (l.length / 2 : Nat) := by
  have hp := (dyck_pos hd hk hu h.ht).1
  rcases List.eq_nil_or_concat s.st with e | ⟨ys, x, e⟩
  · rw [e] at hp; exact absurd rfl hp
  · have hm := h.mem x (by rw [e]; simp)
    exact ⟨ys, x, by rw [e]; simp, hm.1, hm.2⟩
theorem PoInv.down {l : List UInt8} {k : Nat} {s : PoS} (h : PoInv l k s) (hd : DyckP l) (hk : k < l.length) (hu : ¬ l[k].toNat = 117) {ys : List Int} {x : Int} (e : s.st = ys ++ [x]) : PoInv l (k + 1) ⟨s.p.set x.toNat (s.k : Int), ys, s.n, s.k + 1⟩ := by
  have hp := dyck_pos hd hk hu h.ht
  have hg : s.st.getLastD 0 = x := by rw [e]; simp
  have hdl : s.st.dropLast = ys := by rw [e]; simp
  refine ⟨by rw [poS_succ l k hk, h.is]; unfold poF; rw [if_neg hu, hg, hdl], by simpa using h.len, by rw [hp.2, e]; simp, fun y hy => h.mem y (by rw [e]; exact List.mem_append_left _ hy), ?_, Nat.succ_le_succ h.kle⟩
  rw [List.take_succ_eq_append_getElem hk, cu_append]
  have e1 : cu [l[k]] = 0 := by simp [cu, hu]
  have := h.cnt
  simp only
  omega
end Go.Proofs.Ytdjickibifcelaa
