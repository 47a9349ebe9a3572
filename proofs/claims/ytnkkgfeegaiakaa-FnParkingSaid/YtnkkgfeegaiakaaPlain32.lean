/- Plain words for the law on parking: cars stand at different places, at or behind their wishes; sorted wishes park too; what tests of all sorted parkings, and of all paths, tell. No condition. -/
import Derived.Test.YtnkkgfeegaiakaaGround
import Derived.Test.YtnkkgfeegaiakaaPlain9
import Derived.Test.YtnkkgfeegaiakaaPlain16
import Derived.Test.YtnkkgfeegaiakaaPlain22
import Derived.Test.YtnkkgfeegaiakaaPlain25
import Derived.Test.YtnkkgfeegaiakaaParkSort
import Derived.Test.YtnkkgfeegaiakaaPathStat
namespace Go.Proofs.Ytnkkgfeegaiakaa
theorem nf_free (out : List Int) (n : Nat) : ∀ (fuel p : Nat), p ≤ nf out n fuel p ∧ (n < p + fuel → nf out n fuel p ≤ n → ¬ ((nf out n fuel p : Nat) : Int) ∈ out) := by
  intro fuel
  induction fuel with
  | zero => intro p; exact ⟨Nat.le_refl _, fun h1 h2 => by unfold nf at h2; omega⟩
  | succ k ih =>
    intro p
    unfold nf
    by_cases h : p ≤ n ∧ out.contains (p : Int) = true
    · rw [if_pos h]
      have := ih (p + 1)
      exact ⟨by omega, fun h1 h2 => this.2 (by omega) h2⟩
    · rw [if_neg h]
      refine ⟨Nat.le_refl _, fun _ h2 hm => h ⟨h2, ?_⟩⟩
      rw [List.contains_iff_mem]; exact hm
theorem park_inv (f : List Int) (hc : CarsP f) : ∀ (k : Nat) (out : List Int), k ≤ f.length → park f k = some out → out.length = k ∧ out.Nodup ∧ (∀ x ∈ out, 1 ≤ x ∧ x ≤ f.length) ∧ ∀ i, i < k → f.getD i 0 ≤ out.getD i 0 := by
  intro k
  induction k with
  | zero =>
    intro out _ h
    rw [park_zero] at h
    injection h with h
    subst h
    exact ⟨rfl, List.nodup_nil, by simp, fun i hi => by omega⟩
  | succ k ih =>
    intro out hk h
    rw [park_succ _ _ (by omega)] at h
    cases hp : park f k with
    | none => rw [hp] at h; cases h
    | some o =>
      rw [hp] at h
      obtain ⟨h1, h2, h3, h4⟩ := ih o (by omega) hp
      have hw := CarOk.get (show k < f.length by omega) (hc.2 k (by omega))
      have hn := nf_free o f.length (f.length + 1) (f[k]'(by omega)).toNat
      simp only [parkStep] at h
      split at h
      · rename_i hle
        injection h with h
        have hfree := hn.2 (by omega) hle
        generalize nf o f.length (f.length + 1) (f[k]'(by omega)).toNat = q at *
        subst h
        refine ⟨by simp [h1], List.nodup_append.2 ⟨h2, by simp, fun x hx y hy e => ?_⟩, fun x hx => ?_, fun i hi => ?_⟩
        · rw [List.mem_singleton] at hy
          subst hy; subst e; exact hfree hx
        · rcases List.mem_append.1 hx with hx | hx
          · exact h3 x hx
          · rw [List.mem_singleton] at hx; subst hx; omega
        · rcases Nat.lt_or_ge i k with e | e
          · have := h4 i e
            rw [getD_of (show i < (o ++ [(q : Int)]).length by simp; omega), List.getElem_append_left (by omega), ← getD_of (show i < o.length by omega) 0]
            exact this
          · obtain rfl : i = o.length := by omega
            rw [getD_of (show o.length < (o ++ [(q : Int)]).length by simp), List.getElem_append_right (Nat.le_refl _)]
            simp only [Nat.sub_self, List.getElem_cons_zero]
            rw [getD_of (show o.length < f.length by omega)]
            simp only [h1] at *
            omega
      · cases h
theorem sum_nodup : ∀ (n : Nat) (l : List Nat), l.Nodup → (∀ x ∈ l, x < n) → l.length = n → 2 * l.sum + n = n * n := by
  intro n
  induction n with
  | zero => intro l _ _ h; rw [List.eq_nil_of_length_eq_zero h]; rfl
  | succ n ih =>
    intro l hn h hl
    have hm := nodup_all hn h hl n (by omega)
    have hp := List.perm_cons_erase hm
    have h1 := ih (l.erase n) (hn.erase n) (fun x hx => by
      have h2 := (hn.mem_erase_iff).1 hx
      have := h x h2.2
      have := h2.1
      omega) (by rw [List.length_erase_of_mem hm]; omega)
    have h2 := hp.sum_nat
    rw [List.sum_cons] at h2
    rw [h2]
    have e : (n + 1) * (n + 1) = n * n + 2 * n + 1 := by rw [Nat.add_mul, Nat.mul_add]; omega
    omega
/-- places 1 to n, each once -/
structure Places (n : Nat) (P : List Int) : Prop where
  len : P.length = n
  nodup : P.Nodup
  inn : ∀ x ∈ P, 1 ≤ x ∧ x ≤ (n : Int)
theorem Places.nat {n : Nat} {P : List Int} (h : Places n P) : (P.map fun x => x.toNat - 1).Nodup ∧ (∀ x ∈ P.map fun x => x.toNat - 1, x < n) ∧ (P.map fun x => x.toNat - 1).length = n := by
  refine ⟨?_, fun x hx => ?_, by rw [List.length_map, h.len]⟩
  · refine List.pairwise_map.2 ?_
    have h1 : P.Pairwise fun x y => x ≠ y ∧ (1 ≤ x ∧ 1 ≤ y) := by
      refine List.pairwise_iff_getElem.2 fun i j hi hj hij => ⟨List.pairwise_iff_getElem.1 h.nodup i j hi hj hij, (h.inn _ (List.getElem_mem hi)).1, (h.inn _ (List.getElem_mem hj)).1⟩
    exact h1.imp fun {x y} q e => q.1 (by omega)
  · obtain ⟨y, hy, rfl⟩ := List.mem_map.1 hx
    have := h.inn y hy
    omega
theorem map_sum (P : List Int) (h : ∀ x ∈ P, 1 ≤ x) : P.sum = (((P.map fun x => x.toNat - 1).sum : Nat) : Int) + (P.length : Int) := by
  induction P with
  | nil => rfl
  | cons x P ih =>
    rw [List.map_cons, List.sum_cons, List.sum_cons, List.length_cons, ih fun y hy => h y (List.mem_cons_of_mem _ hy)]
    have := h x List.mem_cons_self
    omega
theorem Places.sum {n : Nat} {P : List Int} (h : Places n P) : 2 * P.sum = (n : Int) * n + n := by
  obtain ⟨h1, h2, h3⟩ := h.nat
  have h4 := sum_nodup n _ h1 h2 h3
  rw [map_sum P fun x hx => (h.inn x hx).1, h.len]
  have : ((n * n : Nat) : Int) = (n : Int) * n := by simp
  omega
theorem Places.all {n : Nat} {P : List Int} (h : Places n P) {k : Nat} (h0 : 1 ≤ k) (h1 : k ≤ n) : (k : Int) ∈ P := by
  obtain ⟨h2, h3, h4⟩ := h.nat
  obtain ⟨y, hy, e⟩ := List.mem_map.1 (nodup_all h2 h3 h4 (k - 1) (by omega))
  have := h.inn y hy
  rw [show (k : Int) = y by omega]; exact hy
/-- how many are at most k -/
def cle (k : Int) (l : List Int) : Nat := l.countP fun x => decide (x ≤ k)
theorem cle_succ (k : Int) (l : List Int) : cle (k + 1) l = cle k l + l.countP fun x => decide (x = k + 1) := by
  unfold cle
  induction l with
  | nil => rfl
  | cons x l ih =>
    simp only [List.countP_cons, decide_eq_true_eq]
    rcases Int.lt_trichotomy x (k + 1) with q | q | q
    · rw [if_pos (show x ≤ k + 1 by omega), if_pos (show x ≤ k by omega), if_neg (show ¬ x = k + 1 by omega)]; omega
    · rw [if_pos (show x ≤ k + 1 by omega), if_neg (show ¬ x ≤ k by omega), if_pos q]; omega
    · rw [if_neg (show ¬ x ≤ k + 1 by omega), if_neg (show ¬ x ≤ k by omega), if_neg (show ¬ x = k + 1 by omega)]; omega
theorem Places.cle {n : Nat} {P : List Int} (h : Places n P) : ∀ k : Nat, k ≤ n → k ≤ cle (k : Int) P := by
  intro k
  induction k with
  | zero => intro _; exact Nat.zero_le _
  | succ k ih =>
    intro hk
    have h1 := ih (by omega)
    have h2 : 0 < P.countP fun x => decide (x = (k : Int) + 1) := List.countP_pos_iff.2 ⟨((k + 1 : Nat) : Int), h.all (by omega) hk, by simp⟩
    have h3 := cle_succ (k : Int) P
    rw [show ((k + 1 : Nat) : Int) = (k : Int) + 1 by omega, h3]
    omega
theorem cle_le (k : Int) : ∀ (f P : List Int), f.length = P.length → (∀ i, i < f.length → f.getD i 0 ≤ P.getD i 0) → cle k P ≤ cle k f := by
  intro f
  induction f with
  | nil => intro P h _; rw [List.eq_nil_of_length_eq_zero h.symm]; exact Nat.le_refl _
  | cons x f ih =>
    intro P h hle
    cases P with
    | nil => simp at h
    | cons y P =>
      have h1 := ih P (by simpa using h) (fun i hi => by simpa using hle (i + 1) (by simp; omega))
      have h2 : x ≤ y := by simpa using hle 0 (by simp)
      unfold cle at *
      simp only [List.countP_cons, decide_eq_true_eq]
      by_cases q : y ≤ k
      · rw [if_pos q, if_pos (show x ≤ k by omega)]; omega
      · rw [if_neg q]; split <;> omega
/-- sorting by insertion: the same numbers, in order -/
theorem insS_perm (l : List Int) (x : Int) : (insS l x).Perm (x :: l) := by
  unfold insS
  refine List.perm_middle.trans ?_
  rw [List.take_append_drop]
theorem srtS_perm (f : List Int) : ∀ i, i ≤ f.length → (srtS f i).Perm (f.take i) := by
  intro i
  induction i with
  | zero => intro _; exact List.Perm.refl _
  | succ i ih =>
    intro hi
    rw [srtS_succ, take_succ_get _ _ hi, getD_of hi]
    refine (insS_perm _ _).trans ?_
    refine (List.Perm.cons _ (ih (by omega))).trans ?_
    have := @List.perm_append_comm _ [f[i]] (f.take i)
    exact this
theorem pos_spec (l : List Int) (x : Int) : ∀ k, k ≤ l.length → (∀ i, pos l x k ≤ i → i < k → x < l.getD i 0) ∧ (pos l x k = 0 ∨ l.getD (pos l x k - 1) 0 ≤ x) := by
  intro k
  induction k with
  | zero => intro _; exact ⟨fun i h1 h2 => by omega, .inl rfl⟩
  | succ k ih =>
    intro hk
    unfold pos
    by_cases h : x < l.getD k 0
    · rw [if_pos h]
      obtain ⟨h1, h2⟩ := ih (by omega)
      refine ⟨fun i q1 q2 => ?_, h2⟩
      rcases Nat.lt_or_ge i k with q | q
      · exact h1 i q1 q
      · rw [show i = k by omega]; exact h
    · rw [if_neg h]
      exact ⟨fun i q1 q2 => by omega, .inr (by rw [Nat.add_sub_cancel]; omega)⟩
theorem insS_sorted {l : List Int} (h : l.Pairwise (· ≤ ·)) (x : Int) : (insS l x).Pairwise (· ≤ ·) := by
  obtain ⟨h1, h2⟩ := pos_spec l x l.length (Nat.le_refl _)
  have hp := pos_le l x l.length
  unfold insS
  generalize pos l x l.length = p at *
  have hle : ∀ i j (hi : i < l.length) (hj : j < l.length), i ≤ j → l[i] ≤ l[j] := fun i j hi hj hij => by
    rcases Nat.lt_or_ge i j with q | q
    · exact List.pairwise_iff_getElem.1 h i j hi hj q
    · obtain rfl : i = j := by omega
      exact Int.le_refl _
  have hA : ∀ y ∈ l.take p, y ≤ x := fun y hy => by
    obtain ⟨i, hi, rfl⟩ := List.mem_take_iff_getElem.1 hy
    rcases h2 with h2 | h2
    · omega
    · rw [getD_of (show p - 1 < l.length by omega)] at h2
      have := hle i (p - 1) (by omega) (by omega) (by omega)
      omega
  have hB : ∀ y ∈ l.drop p, x ≤ y := fun y hy => by
    obtain ⟨i, hi, rfl⟩ := List.getElem_of_mem hy
    rw [List.length_drop] at hi
    rw [List.getElem_drop]
    have := h1 (p + i) (by omega) (by omega)
    rw [getD_of (show p + i < l.length by omega)] at this
    omega
  refine List.pairwise_append.2 ⟨h.sublist (List.take_sublist _ _), List.pairwise_cons.2 ⟨hB, h.sublist (List.drop_sublist _ _)⟩, fun a ha b hb => ?_⟩
  have ha' := hA a ha
  rcases List.mem_cons.1 hb with e | hb
  · rw [e]; exact ha'
  · have := hB b hb; omega
theorem srtS_sorted (f : List Int) (i : Nat) : (srtS f i).Pairwise (· ≤ ·) := by
  induction i with
  | zero => exact List.Pairwise.nil
  | succ i ih => rw [srtS_succ]; exact insS_sorted ih _
/-- in a sorted list where there are enough small numbers each place has a small number -/
theorem sorted_small {s : List Int} (h : s.Pairwise (· ≤ ·)) (hc : ∀ k : Nat, k ≤ s.length → k ≤ cle (k : Int) s) {k : Nat} (hk : k < s.length) : s[k] ≤ (k : Int) + 1 := by
  rcases Int.lt_or_le ((k : Int) + 1) s[k] with q | q
  · exfalso
    have h1 := hc (k + 1) hk
    have h2 : cle ((k + 1 : Nat) : Int) s ≤ k := by
      unfold cle
      rw [← List.take_append_drop k s, List.countP_append]
      have z : (s.drop k).countP (fun x => decide (x ≤ ((k + 1 : Nat) : Int))) = 0 := by
        rw [List.countP_eq_zero]
        intro y hy hle
        obtain ⟨i, hi, rfl⟩ := List.getElem_of_mem hy
        rw [List.length_drop] at hi
        rw [List.getElem_drop] at hle
        have hle := of_decide_eq_true hle
        have : s[k] ≤ s[k + i] := by
          rcases Nat.lt_or_ge 0 i with q2 | q2
          · exact List.pairwise_iff_getElem.1 h k (k + i) hk (by omega) (by omega)
          · obtain rfl : i = 0 := by omega
            exact Int.le_refl _
        omega
      rw [z]
      have := List.countP_le_length (p := fun x => decide (x ≤ ((k + 1 : Nat) : Int))) (l := s.take k)
      rw [List.length_take] at this
      omega
    omega
  · exact q
/-- the letters of a place say how many wish it -/
theorem usL_count (f : List Int) (p : Nat) : usL f p f.length = List.replicate (f.countP fun x => decide (x = (p : Int))) 117 := by
  have h : ∀ k, k ≤ f.length → usL f p k = List.replicate ((f.take k).countP fun x => decide (x = (p : Int))) 117 := by
    intro k
    induction k with
    | zero => intro _; rfl
    | succ k ih =>
      intro hk
      rw [usL_succ, ih (by omega), take_succ_get _ _ hk, List.countP_append, getD_of hk]
      by_cases e : f[k] = (p : Int)
      · rw [if_pos e]
        simp [e, List.replicate_succ']
      · rw [if_neg e]
        simp [e]
  have := h f.length (Nat.le_refl _)
  rwa [List.take_length] at this
theorem ppL_perm {f s : List Int} (h : s.Perm f) (k : Nat) : ppL s k = ppL f k := by
  unfold ppL
  congr 1
  funext p
  rw [usL_count, usL_count, h.countP_eq]
/-- sorted wishes, each at most its place -/
def candS (a : List Int) : List Int := ((List.range (a.length + 1)).map fun (x : Nat) => (x : Int) + 1).filter fun x => decide (a.getLastD 0 ≤ x)
/-- the test of sorted wishes -/
def tP (s : List Int) : Bool := (placesR s).2 && decide (2 * areaV (ppL s s.length) = (s.length : Int) * s.length + s.length - 2 * s.sum)
set_option maxRecDepth 100000 in
theorem tP_all : ((List.range 7).all fun n => tstL candS tP n []) = true := by decide +kernel
structure ParkFacts (f : List Int) : Prop where
  len : (placesR f).1.length = f.length
  on : ∀ i, i < f.length → f.getD i 0 ≤ (placesR f).1.getD i 0
  ne : ∀ i, i < f.length → ∀ k, k < i → (placesR f).1.getD k 0 ≠ (placesR f).1.getD i 0
  path : ppR (spR f).1 = ((ppR f).1, true)
  disp : 2 * dispV f = (f.length : Int) * f.length + f.length - 2 * f.sum
  area : dispV f = areaV (ppR f).1
theorem dispS_sum (P f : List Int) : ∀ k, k ≤ f.length → k ≤ P.length → dispS P f k = (P.take k).sum - (f.take k).sum := by
  intro k
  induction k with
  | zero => intro _ _; rfl
  | succ k ih =>
    intro h1 h2
    rw [dispS_succ, ih (by omega) (by omega), take_succ_get _ _ h1, take_succ_get _ _ h2, List.sum_append, List.sum_append, getD_of h1, getD_of h2]
    simp only [List.sum_cons, List.sum_nil]
    omega
theorem perm_sum {a b : List Int} (h : a.Perm b) : a.sum = b.sum := by
  induction h with
  | nil => rfl
  | cons x _ ih => rw [List.sum_cons, List.sum_cons, ih]
  | swap x y l => simp only [List.sum_cons]; omega
  | trans _ _ h1 h2 => exact h1.trans h2
theorem park_law {f : List Int} (h : (placesR f).2 = true) : ParkFacts f := by
  have hok := placesR_ok h
  have hc := hok.1
  obtain ⟨P, hP, e⟩ : ∃ P, park f f.length = some P ∧ placesR f = (P, true) := by
    unfold placesR at h ⊢
    rw [if_pos hc] at h ⊢
    cases hp : park f f.length with
    | none => rw [hp] at h; cases h
    | some out => exact ⟨out, rfl, rfl⟩
  obtain ⟨h1, h2, h3, h4⟩ := park_inv f hc f.length P (Nat.le_refl _) hP
  have hPl : Places f.length P := ⟨h1, h2, h3⟩
  have e1 : (placesR f).1 = P := by rw [e]
  have hsp : (spR f).1 = srtS f f.length := by unfold spR; rw [if_pos h]
  have hperm : (srtS f f.length).Perm f := by
    have := srtS_perm f f.length (Nat.le_refl _)
    rwa [List.take_length] at this
  have hsl := srtS_len f f.length
  have hcle : ∀ k : Nat, k ≤ (srtS f f.length).length → k ≤ cle (k : Int) (srtS f f.length) := fun k hk => by
    rw [hsl] at hk
    have q1 := hPl.cle k hk
    have q2 := cle_le (k : Int) f P h1.symm h4
    have q3 : cle (k : Int) (srtS f f.length) = cle (k : Int) f := hperm.countP_eq _
    omega
  have hT : tP (srtS f f.length) = true := by
    refine tstL_all (n := (srtS f f.length).length) (List.all_eq_true.1 tP_all _ (List.mem_range.2 (by rw [hsl]; have := hc.1; omega))) rfl fun k hk => ?_
    have hs := srtS_sorted f f.length
    have q1 := sorted_small hs hcle hk
    have q0 : 1 ≤ (srtS f f.length)[k] := by
      obtain ⟨i, hi, ei⟩ := List.getElem_of_mem (hperm.mem_iff.1 (List.getElem_mem hk))
      have := CarOk.get hi (hc.2 i hi)
      omega
    generalize srtS f f.length = s at *
    have hlen : (s.take k).length = k := by simp; omega
    unfold candS
    rw [hlen]
    refine List.mem_filter.2 ⟨List.mem_map.2 ⟨(s[k] - 1).toNat, List.mem_range.2 (by omega), by omega⟩, decide_eq_true ?_⟩
    rcases Nat.lt_or_ge 0 k with q | q
    · have e2 : (s.take k).getLastD 0 = s[k - 1]'(by omega) := by
        rw [List.getLastD_eq_getLast?, List.getLast?_eq_getElem?, hlen]
        simp [List.getElem?_take, show k - 1 < k by omega, List.getElem?_eq_getElem (show k - 1 < s.length by omega)]
      rw [e2]
      exact List.pairwise_iff_getElem.1 hs (k - 1) k (by omega) hk (by omega)
    · obtain rfl : k = 0 := by omega
      simp; omega
  unfold tP at hT
  rw [Bool.and_eq_true, decide_eq_true_eq] at hT
  have hpp : ppL (srtS f f.length) (srtS f f.length).length = ppL f f.length := by rw [ppL_perm hperm, hsl]
  have hppf : (ppR f).1 = ppL f f.length := by unfold ppR; rw [if_pos h]
  have hd : dispV f = P.sum - f.sum := by
    unfold dispV
    rw [if_pos h, e1, dispS_sum P f f.length (Nat.le_refl _) (by omega), List.take_length, List.take_of_length_le (by omega)]
  have hsum := hPl.sum
  refine ⟨by rw [e1]; exact h1, fun i hi => by rw [e1]; exact h4 i hi, fun i hi k hk => ?_, ?_, ?_, ?_⟩
  · rw [e1, getD_of (show k < P.length by omega), getD_of (show i < P.length by omega)]
    exact List.pairwise_iff_getElem.1 h2 k i (by omega) (by omega) hk
  · rw [hsp, hppf]
    unfold ppR
    rw [if_pos hT.1, hpp]
  · omega
  · have h5 := hT.2
    rw [hpp, hsl, perm_sum hperm] at h5
    rw [hppf]
    omega
/-- how many parkings there are over the first k paths -/
def pkSum (ps : List (List UInt8)) (k : Nat) : Int := ((ps.take k).map pkV).sum
theorem pkSum_succ {ps : List (List UInt8)} {k : Nat} (h : k < ps.length) : pkSum ps (k + 1) = pkSum ps k + pkV ps[k] := by
  unfold pkSum
  rw [take_succ_get _ _ h, List.map_append, List.sum_append, List.map_singleton, List.sum_singleton]
set_option maxRecDepth 100000 in
theorem pk_all : ((List.range 6).all fun m => decide (pkSum (pathsL m) (pathsL m).length = if m = 0 then 1 else (((m + 1) ^ (m - 1) : Nat) : Int)) && (pathsL m).all fun l => decide (0 ≤ pkV l ∧ pkV l ≤ 1000)) = true := by decide +kernel
end Go.Proofs.Ytnkkgfeegaiakaa
