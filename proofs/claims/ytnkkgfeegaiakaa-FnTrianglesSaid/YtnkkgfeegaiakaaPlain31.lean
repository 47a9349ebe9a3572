/- Plain words for the law on matchings: what tests of all short paths, and of all matchings of at most eight points, tell of crossings, nestings and turns. No condition. -/
import Derived.Test.YtnkkgfeegaiakaaGround2
namespace Go.Proofs.Ytnkkgfeegaiakaa
/-- the test of a path -/
def tF (l : List UInt8) : Bool := decide (pomR (mofR l).1 = (l, true)) && (decide (crossV (mofR l).1 = 0) && decide (nestV (mofR l).1 = areaV l))
set_option maxRecDepth 100000 in
theorem tF_all : tstAll tF 6 = true := by decide +kernel
set_option maxRecDepth 100000 in
theorem tF_u8 : tF u8d8 = true := by decide +kernel
/-- the place of i behind a turn by t -/
def sg (n t i : Int) : Int := if t ≤ i then i - t else i - t + n
theorem sg_mod {n t i : Int} (h0 : 0 ≤ i) (h1 : i < n) (h2 : 0 ≤ t) (h3 : t < n) : (i - t + n) % n = sg n t i := by
  unfold sg
  by_cases h : t ≤ i
  · rw [if_pos h, Int.add_emod_right, Int.emod_eq_of_lt (by omega) (by omega)]
  · rw [if_neg h, Int.emod_eq_of_lt (by omega) (by omega)]
theorem sg_in {n t i : Int} (h0 : 0 ≤ i) (h1 : i < n) (h2 : 0 ≤ t) (h3 : t < n) : 0 ≤ sg n t i ∧ sg n t i < n := by
  unfold sg; split <;> omega
theorem sg_inj {n t i j : Int} (h0 : 0 ≤ i) (h1 : i < n) (h2 : 0 ≤ j) (h3 : j < n) (e : sg n t i = sg n t j) : i = j := by
  unfold sg at e; split at e <;> split at e <;> omega
theorem sg_onto {n t j : Int} (h0 : 0 ≤ j) (h1 : j < n) (h2 : 0 ≤ t) (h3 : t < n) : ∃ i, 0 ≤ i ∧ i < n ∧ sg n t i = j := by
  by_cases h : j + t < n
  · exact ⟨j + t, by omega, h, by unfold sg; rw [if_pos (by omega)]; omega⟩
  · exact ⟨j + t - n, by omega, by omega, by unfold sg; rw [if_neg (by omega)]; omega⟩
theorem getD_set_m (l : List Int) (k x : Nat) (c : Int) : (l.set k c).getD x 0 = if k = x ∧ k < l.length then c else l.getD x 0 := by
  simp only [List.getD, List.getElem?_set]
  by_cases e : k = x
  · subst e
    by_cases hk : k < l.length
    · simp [hk]
    · simp [hk]
  · simp [e]
theorem turnL_at {m : List Int} {t : Int} (hm : MatchP m) (h0 : 0 ≤ t) (h1 : t < m.length) : ∀ k, k ≤ m.length → ∀ i, i < k → (turnL m t k).getD (sg m.length t i).toNat 0 = sg m.length t (m.getD i 0) := by
  intro k
  induction k with
  | zero => intro _ i hi; omega
  | succ k ih =>
    intro hk i hi
    have hmk := hm.2 k (by omega)
    unfold MatchOk at hmk
    have s1 := sg_in (n := m.length) (t := t) (i := (k : Int)) (by omega) (by omega) h0 h1
    rw [turnL_succ, sg_mod (by omega) (by omega) h0 h1, sg_mod hmk.1 hmk.2.1 h0 h1, getD_set_m, turnL_len]
    by_cases e : i = k
    · subst e
      rw [if_pos ⟨rfl, by omega⟩]
    · have s2 := sg_in (n := m.length) (t := t) (i := (i : Int)) (by omega) (by omega) h0 h1
      rw [if_neg (fun q => e (by have := sg_inj (n := m.length) (t := t) (i := (k : Int)) (j := (i : Int)) (by omega) (by omega) (by omega) (by omega) (by omega); omega))]
      exact ih (by omega) i (by omega)
theorem turnL_match {m : List Int} {t : Int} (hm : MatchP m) (h0 : 0 ≤ t) (h1 : t < m.length) : MatchP (turnL m t m.length) := by
  refine ⟨by rw [turnL_len]; exact hm.1, fun k hk => ?_⟩
  rw [turnL_len] at hk
  obtain ⟨i, i0, i1, e⟩ := sg_onto (n := m.length) (t := t) (j := (k : Int)) (by omega) (by omega) h0 h1
  have hi := hm.2 i.toNat (by omega)
  unfold MatchOk at hi ⊢
  have g1 := turnL_at hm h0 h1 m.length (Nat.le_refl _) i.toNat (by omega)
  have ei : ((i.toNat : Nat) : Int) = i := by omega
  rw [ei, e, Int.toNat_natCast] at g1
  have s1 := sg_in hi.1 hi.2.1 h0 h1
  have g2 := turnL_at hm h0 h1 m.length (Nat.le_refl _) (m.getD i.toNat 0).toNat (by omega)
  have ej : (((m.getD i.toNat 0).toNat : Nat) : Int) = m.getD i.toNat 0 := by omega
  rw [ej, hi.2.2.2, ei, e] at g2
  rw [turnL_len, g1]
  refine ⟨s1.1, s1.2, fun q => hi.2.2.1 ?_, g2⟩
  rw [← e] at q
  have := sg_inj hi.1 hi.2.1 i0 i1 q
  omega
theorem turnL_back {m : List Int} {t t' : Int} (hm : MatchP m) (h0 : 0 ≤ t) (h1 : t < m.length) (h0' : 0 ≤ t') (h1' : t' < m.length) (hs : t + t' = m.length ∨ (t = 0 ∧ t' = 0)) : turnL (turnL m t m.length) t' m.length = m := by
  have hm' := turnL_match hm h0 h1
  have hl := turnL_len m t m.length
  have hl2 : (turnL (turnL m t m.length) t' m.length).length = m.length := by rw [turnL_len, hl]
  have back : ∀ i : Int, 0 ≤ i → i < m.length → sg m.length t' (sg m.length t i) = i := fun i q0 q1 => by
    unfold sg
    by_cases q : t ≤ i
    · rw [if_pos q]; split <;> omega
    · rw [if_neg q]; split <;> omega
  apply List.ext_getElem hl2
  intro i hi hi2
  have g1 := turnL_at hm h0 h1 m.length (Nat.le_refl _) i hi2
  have s1 := sg_in (n := m.length) (t := t) (i := (i : Int)) (by omega) (by omega) h0 h1
  have hmi := hm.2 i hi2
  unfold MatchOk at hmi
  have g2 := turnL_at (t := t') hm' h0' (by rw [hl]; exact h1') m.length (by rw [hl]; exact Nat.le_refl _) (sg m.length t i).toNat (by omega)
  rw [hl, show (((sg m.length t i).toNat : Nat) : Int) = sg m.length t i by omega, back i (by omega) (by omega), Int.toNat_natCast, g1, back _ hmi.1 hmi.2.1] at g2
  rw [← getD_of hi 0, ← getD_of hi2 0]
  exact g2
/-- do no two arcs cross? -/
def nonX (m : List Int) : Bool := allB m.length fun a => !decide ((a : Int) < m.getD a 0) || (List.range' (a + 1) ((m.getD a 0).toNat - a - 1)).all fun b => decide (m.getD b 0 ≤ m.getD a 0)
theorem sum_zero {n : Nat} {g : Nat → Nat} (h : ∀ i, i < n → g i = 0) : sumTo n g = 0 := by
  induction n with
  | zero => rfl
  | succ n ih => rw [sumTo_succ, ih fun i hi => h i (by omega), h n (by omega)]
theorem nonX_zero {m : List Int} (h : nonX m = true) : crossN m = 0 := by
  unfold nonX at h
  rw [allB_iff] at h
  unfold crossN
  refine sum_zero fun a ha => sum_zero fun b hb => ?_
  show (crossF m a b).toNat = 0
  have := h a ha
  rw [Bool.or_eq_true, Bool.not_eq_true', decide_eq_false_iff_not] at this
  have hc : crossF m a b = false := by
    rw [Bool.eq_false_iff]
    intro hc
    unfold crossF at hc
    simp only [Bool.and_eq_true, decide_eq_true_eq] at hc
    rcases this with q | q
    · omega
    · have q2 := of_decide_eq_true (List.all_eq_true.1 q b (List.mem_range'_1.2 ⟨by omega, by omega⟩))
      omega
  rw [hc]; rfl
/-- the test of a matching and all its turns -/
def tG (m : List Int) : Bool := !decide (MatchP m) || (List.range m.length).all fun k => decide (crossN (turnL m k m.length) = crossN m)
set_option maxRecDepth 100000 in
theorem tG_all : ((List.range 8).all fun n => tstL (candM n) tG n []) = true := by decide +kernel
set_option maxRecDepth 100000 in
theorem tG_eight : tstL (candM 8) tG 8 [] = true := by decide +kernel
def tH (l : List UInt8) : Bool := nonX (prt l) && (List.range l.length).all fun k => nonX (turnL (prt l) k l.length)
set_option maxRecDepth 100000 in
theorem tH_five : tstAll tH 5 = true := by decide +kernel
set_option maxRecDepth 100000 in
theorem tH_six : tst tH 12 0 [] = true := by decide +kernel
/-- what the draws of matchings give -/
def Few (m : List Int) : Prop := m.length ≤ 8 ∨ (MatchP m → ∃ l, DyckP l ∧ l.length ≤ 12 ∧ m = prt l)
structure TurnM (m : List Int) (t : Int) : Prop where
  yes : MatchP (turnR m t).1
  cross : crossV (turnR m t).1 = crossV m
  back : 0 < m.length → turnR (turnR m t).1 (((m.length : Int) - t) % m.length) = (m, true)
theorem few_cross {m : List Int} (hf : Few m) (hm : MatchP m) (k : Nat) (hk : k < m.length) : crossN (turnL m k m.length) = crossN m := by
  rcases hf with h | h
  · have hT : tG m = true := by
      by_cases h8 : m.length = 8
      · exact match_tst tG_eight hm h8
      · exact match_tst (List.all_eq_true.1 tG_all m.length (List.mem_range.2 (by omega))) hm rfl
    unfold tG at hT
    rw [decide_eq_true hm] at hT
    simp only [Bool.not_true, Bool.false_or, List.all_eq_true, List.mem_range, decide_eq_true_eq] at hT
    exact hT k hk
  · obtain ⟨l, hd, hl, rfl⟩ := h hm
    have hT : tH l = true := by
      have hh := dyck_half hd
      by_cases h12 : l.length = 12
      · have := tst_sound tH l 0 [] (by rw [h12]; exact tH_six) hd.2
        simpa using this
      · exact tstAll_sound tH_five hd (by omega)
    unfold tH at hT
    rw [Bool.and_eq_true] at hT
    rw [prt_len hd] at hk ⊢
    have := List.all_eq_true.1 hT.2 k (List.mem_range.2 hk)
    rw [nonX_zero this, nonX_zero hT.1]
theorem turnR_yes (m : List Int) (t : Int) : (turnR m t).2 = decide (MatchP m ∧ 0 ≤ t ∧ t ≤ max 0 ((m.length : Int) - 1)) := by
  unfold turnR
  by_cases h : MatchP m ∧ 0 ≤ t ∧ t ≤ max 0 ((m.length : Int) - 1)
  · rw [if_pos h, decide_eq_true h]
  · rw [if_neg h, decide_eq_false h]
theorem turn_match {m : List Int} {t : Int} (hf : Few m) (h : (turnR m t).2 = true) : TurnM m t := by
  rw [turnR_yes] at h
  have h := of_decide_eq_true h
  obtain ⟨hm, h0, h1⟩ := h
  have he : (turnR m t).1 = turnL m t m.length := by unfold turnR; rw [if_pos ⟨hm, h0, h1⟩]
  by_cases hz : m.length = 0
  · obtain rfl := List.eq_nil_of_length_eq_zero hz
    have e : turnL [] t ([] : List Int).length = [] := rfl
    rw [e] at he
    exact ⟨by rw [he]; exact hm, by rw [he], fun h => by simp at h⟩
  · have h1' : t < m.length := by omega
    have hM := turnL_match hm h0 h1'
    refine ⟨by rw [he]; exact hM, ?_, fun hp => ?_⟩
    · rw [he]; unfold crossV; rw [if_pos hM, if_pos hm]
      have := few_cross hf hm t.toNat (by omega)
      rw [show ((t.toNat : Nat) : Int) = t by omega] at this
      rw [this]
    · rw [he]
      have hl := turnL_len m t m.length
      have hr0 := Int.emod_nonneg ((m.length : Int) - t) (b := (m.length : Int)) (by omega)
      have hr1 := Int.emod_lt_of_pos ((m.length : Int) - t) (b := (m.length : Int)) (by omega)
      have hs : t + ((m.length : Int) - t) % m.length = m.length ∨ (t = 0 ∧ ((m.length : Int) - t) % m.length = 0) := by
        by_cases q : t = 0
        · right; refine ⟨q, ?_⟩; rw [q, Int.sub_zero, Int.emod_self]
        · left; rw [Int.emod_eq_of_lt (by omega) (by omega)]; omega
      unfold turnR
      rw [if_pos ⟨hM, hr0, by rw [hl]; omega⟩, hl, turnL_back hm h0 h1' hr0 hr1 hs]
theorem mofR_yes (l : List UInt8) : (mofR l).2 = decide (DyckP l) := by
  unfold mofR
  by_cases h : DyckP l
  · rw [if_pos h, decide_eq_true h]
  · rw [if_neg h, decide_eq_false h]
theorem path_match {l : List UInt8} (hs : Short l) (hd : DyckP l) : pomR (mofR l).1 = (l, true) ∧ crossV (mofR l).1 = 0 ∧ nestV (mofR l).1 = areaV l := by
  have := path_tst tF_all tF_u8 hs hd
  unfold tF at this
  simp only [Bool.and_eq_true, decide_eq_true_eq] at this
  exact this
/-- a matching with one point turned is none -/
theorem one_turned {m : List Int} {i : Nat} {x : Int} (hm : MatchP m) (hi : i < m.length) (h : MatchP (m.set i x)) : m.set i x = m := by
  have h1 := hm.2 i hi
  unfold MatchOk at h1
  have hj : (m.getD i 0).toNat < m.length := by omega
  have hne : (m.getD i 0).toNat ≠ i := by omega
  have h2 := (h.2 (m.getD i 0).toNat (by rw [List.length_set]; exact hj))
  unfold MatchOk at h2
  have e1 : (m.set i x).getD (m.getD i 0).toNat 0 = (i : Int) := by
    rw [getD_of (by rw [List.length_set]; exact hj), List.getElem_set, if_neg (fun e => hne e.symm), ← getD_of hj 0, h1.2.2.2]
  rw [e1, Int.toNat_natCast] at h2
  have h3 := h2.2.2.2
  have e2 : (m.set i x).getD i 0 = x := by rw [getD_of (by rw [List.length_set]; exact hi), List.getElem_set, if_pos rfl]
  rw [e2] at h3
  have e3 : x = m[i] := by rw [← getD_of hi 0]; omega
  rw [e3]
  exact List.set_getElem_self hi
end Go.Proofs.Ytnkkgfeegaiakaa
