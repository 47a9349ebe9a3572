/- Plain words for the law on triangulations: a turned triangulation is one, and the turn back leads back; the ears. No condition but what each lemma says. -/
import Derived.Test.YtnkkgfeegaiakaaPlain35
import Derived.Test.YtnkkgfeegaiakaaTriOfImpl
namespace Go.Proofs.Ytnkkgfeegaiakaa
open Go.RowKit
/-- a number turned -/
def rot (n k x : Int) : Int := if x + k < n then x + k else x + k - n
theorem rot_mod {n k x : Int} (h0 : 0 ≤ x) (h1 : x < n) (h2 : 0 ≤ k) (h3 : k < n) : (x + k) % n = rot n k x := by
  unfold rot
  by_cases h : x + k < n
  · rw [if_pos h, Int.emod_eq_of_lt (by omega) h]
  · rw [if_neg h, ← Int.sub_emod_right, Int.emod_eq_of_lt (by omega) (by omega)]
theorem rot_in {n k x : Int} (h0 : 0 ≤ x) (h1 : x < n) (h2 : 0 ≤ k) (h3 : k < n) : 0 ≤ rot n k x ∧ rot n k x < n := by unfold rot; split <;> omega
theorem rot_back {n k k' x : Int} (h0 : 0 ≤ x) (h1 : x < n) (h2 : 0 ≤ k) (h3 : k < n) (hk : k + k' = n ∨ (k = 0 ∧ k' = 0)) : rot n k' (rot n k x) = x := by
  unfold rot; split <;> split <;> omega
/-- a diagonal of the polygon -/
def Dg (n : Int) (x : List Int) : Prop := ∃ a b, x = [a, b] ∧ (0 ≤ a ∧ a ≤ n - 1) ∧ (0 ≤ b ∧ b ≤ n - 1) ∧ 2 ≤ b - a ∧ ¬ (a = 0 ∧ b = n - 1)
theorem Dg.b {n : Int} {x : List Int} (h : Dg n x) : diagB n x = true := by
  obtain ⟨a, b, rfl, h1, h2, h3, h4⟩ := h
  unfold diagB
  simp only [List.length_cons, List.length_nil, List.getD_cons_zero, List.getD_cons_succ, Bool.and_eq_true, decide_eq_true_eq, Bool.not_eq_true', Bool.and_eq_false_iff, decide_eq_false_iff_not]
  exact ⟨trivial, h1, h2, h3, by omega⟩
theorem trow_rot {n k a b : Int} (ha : 0 ≤ a ∧ a ≤ n - 1) (hb : 0 ≤ b ∧ b ≤ n - 1) (hk : 0 ≤ k ∧ k ≤ n - 1) : trow n k [a, b] = [min (rot n k a) (rot n k b), max (rot n k a) (rot n k b)] := by
  rw [trow_two, rot_mod (by omega) (by omega) (by omega) (by omega), rot_mod (by omega) (by omega) (by omega) (by omega)]
theorem Dg.turn {n k : Int} {x : List Int} (h : Dg n x) (hk : 0 ≤ k ∧ k ≤ n - 1) : Dg n (trow n k x) := by
  obtain ⟨a, b, rfl, h1, h2, h3, h4⟩ := h
  rw [trow_rot h1 h2 hk]
  refine ⟨_, _, rfl, ?_⟩
  unfold rot
  split <;> split <;> omega
theorem trow_back {n k k' : Int} {x : List Int} (h : Dg n x) (hk : 0 ≤ k ∧ k ≤ n - 1) (hk' : 0 ≤ k' ∧ k' ≤ n - 1) (hs : k + k' = n ∨ (k = 0 ∧ k' = 0)) : trow n k' (trow n k x) = x := by
  obtain ⟨a, b, rfl, h1, h2, h3, h4⟩ := h
  have r1 := rot_in (n := n) (k := k) h1.1 (by omega) hk.1 (by omega)
  have r2 := rot_in (n := n) (k := k) h2.1 (by omega) hk.1 (by omega)
  have b1 := rot_back (n := n) (k := k) (k' := k') h1.1 (by omega) hk.1 (by omega) hs
  have b2 := rot_back (n := n) (k := k) (k' := k') h2.1 (by omega) hk.1 (by omega) hs
  rw [trow_rot h1 h2 hk, trow_rot (by omega) (by omega) hk']
  rcases Int.le_total (rot n k a) (rot n k b) with q | q
  · rw [Int.min_eq_left q, Int.max_eq_right q, b1, b2, Int.min_eq_left (by omega), Int.max_eq_right (by omega)]
  · rw [Int.min_eq_right q, Int.max_eq_left q, b1, b2, Int.min_eq_right (by omega), Int.max_eq_left (by omega)]
theorem crB_two {a b c d : Int} : crB [a, b] [c, d] = false ↔ ¬ ((a < c ∧ c < b ∧ b < d) ∨ (c < a ∧ a < d ∧ d < b)) := by
  unfold crB crN
  simp only [List.getD_cons_zero, List.getD_cons_succ]
  rw [← Bool.not_eq_true]
  simp only [Bool.or_eq_true, Bool.and_eq_true, decide_eq_true_eq]
theorem cr_turn {n k : Int} {x y : List Int} (hx : Dg n x) (hy : Dg n y) (hk : 0 ≤ k ∧ k ≤ n - 1) (h : crB x y = false) : crB (trow n k x) (trow n k y) = false := by
  obtain ⟨a, b, rfl, h1, h2, h3, h4⟩ := hx
  obtain ⟨c, d, rfl, h5, h6, h7, h8⟩ := hy
  rw [crB_two] at h
  rw [trow_rot h1 h2 hk, trow_rot h5 h6 hk, crB_two]
  unfold rot
  split <;> split <;> split <;> split <;> omega
theorem TriP.dg {n : Int} {d : List (List Int)} (h : TriP n d) : ∀ x ∈ d, Dg n x := fun x hx => by
  obtain ⟨i, hi, e⟩ := List.getElem_of_mem hx
  have := diag_two (h.2.2 i hi).1
  rw [rowOf_get hi, e] at this
  exact this
theorem TriP.asc {n : Int} {d : List (List Int)} (h : TriP n d) : d.Pairwise fun x y => ltL x y = true := by
  have hasc : ∀ j i, i < j → j < d.length → cmpL (rowOf d i) (rowOf d j) < 0 := by
    intro j
    induction j with
    | zero => intro i hi; omega
    | succ j ih =>
      intro i hi hj
      have h1 := (h.2.2 (j + 1) hj).2.1 (by omega)
      rw [Nat.add_sub_cancel] at h1
      rcases Nat.lt_or_ge i j with q | q
      · exact cmpL_tr _ _ _ (ih i q (by omega)) h1
      · rw [show i = j by omega]; exact h1
  refine List.pairwise_iff_getElem.2 fun i j hi hj hij => ?_
  have := hasc j i hij hj
  rw [rowOf_get hi, rowOf_get hj] at this
  exact decide_eq_true this
theorem crB_self (x : List Int) : crB x x = false := by unfold crB crN; simp
theorem crB_comm (x y : List Int) : crB x y = crB y x := by unfold crB crN; rw [Bool.or_comm]
theorem TriP.cr {n : Int} {d : List (List Int)} (h : TriP n d) : ∀ x ∈ d, ∀ y ∈ d, crB x y = false := fun x hx y hy => by
  obtain ⟨i, hi, ei⟩ := List.getElem_of_mem hx
  obtain ⟨j, hj, ej⟩ := List.getElem_of_mem hy
  rcases Nat.lt_trichotomy i j with q | q | q
  · have := (h.2.2 j hj).2.2 i q
    rwa [rowOf_get hi, rowOf_get hj, ei, ej] at this
  · subst q
    rw [ei] at ej; subst ej
    exact crB_self x
  · have := (h.2.2 i hi).2.2 j q
    rwa [rowOf_get hi, rowOf_get hj, ei, ej, crB_comm] at this
/-- a triangulation by what its rows are -/
theorem TriP.mk_ {n : Int} {d : List (List Int)} (h1 : 2 ≤ n ∧ n ≤ 10) (h2 : (d.length : Int) = max 0 (n - 3)) (h3 : ∀ x ∈ d, Dg n x) (h4 : d.Pairwise fun x y => ltL x y = true) (h5 : ∀ x ∈ d, ∀ y ∈ d, crB x y = false) : TriP n d := by
  refine ⟨h1, h2, fun i hi => ⟨?_, fun h0 => ?_, fun k hk => ?_⟩⟩
  · rw [rowOf_get hi]; exact (h3 _ (List.getElem_mem hi)).b
  · have := List.pairwise_iff_getElem.1 h4 (i - 1) i (by omega) hi (by omega)
    rw [rowOf_get hi, rowOf_get (by omega)]
    exact of_decide_eq_true this
  · rw [rowOf_get hi, rowOf_get (by omega)]
    exact h5 _ (List.getElem_mem _) _ (List.getElem_mem _)
theorem nodup_map_inj {α β : Type} {f : α → β} : ∀ {l : List α}, l.Nodup → (∀ x ∈ l, ∀ y ∈ l, f x = f y → x = y) → (l.map f).Nodup
  | [], _, _ => List.nodup_nil
  | a :: l, hn, hi => by
    obtain ⟨h1, h2⟩ := List.nodup_cons.1 hn
    rw [List.map_cons]
    refine List.nodup_cons.2 ⟨fun hm => ?_, nodup_map_inj h2 fun x hx y hy => hi x (List.mem_cons_of_mem _ hx) y (List.mem_cons_of_mem _ hy)⟩
    obtain ⟨y, hy, e⟩ := List.mem_map.1 hm
    have := hi y (List.mem_cons_of_mem _ hy) a List.mem_cons_self e
    subst this
    exact h1 hy
theorem turn_tri {n k : Int} {d : List (List Int)} (h : TriP n d) (hk : 0 ≤ k ∧ k ≤ n - 1) : TriP n (putsG [] ltL (d.map (trow n k))) ∧ tnR n (putsG [] ltL (d.map (trow n k))) ((n - k) % n) = (d, true) := by
  have hn := h.1
  have hdg := h.dg
  have hcr := h.cr
  have has := h.asc
  have hnd : d.Nodup := has.imp fun {a b} h e => by subst e; rw [show ltL a a = false from ltL_total.irr a] at h; cases h
  have hk0 := Int.emod_nonneg (n - k) (b := n) (by omega)
  have hk1 := Int.emod_lt_of_pos (n - k) (b := n) (by omega)
  have hs : k + (n - k) % n = n ∨ (k = 0 ∧ (n - k) % n = 0) := by
    by_cases q : k = 0
    · right; refine ⟨q, ?_⟩; rw [q, Int.sub_zero, Int.emod_self]
    · left; rw [Int.emod_eq_of_lt (by omega) (by omega)]; omega
  generalize (n - k) % n = k' at *
  have hk' : 0 ≤ k' ∧ k' ≤ n - 1 := by omega
  have hbk : ∀ x ∈ d, trow n k' (trow n k x) = x := fun x hx => trow_back (hdg x hx) hk hk' hs
  have hnd2 : (d.map (trow n k)).Nodup := nodup_map_inj hnd fun x hx y hy e => by rw [← hbk x hx, ← hbk y hy, e]
  have hp := putsG_perm [] ltL (d.map (trow n k))
  have hT : TriP n (putsG [] ltL (d.map (trow n k))) := by
    refine TriP.mk_ hn (by rw [putsG_len, List.length_map]; exact h.2.1) (fun x hx => ?_) (putsG_sorted [] (lt := ltL) ltL_total _ hnd2) (fun x hx y hy => ?_)
    · obtain ⟨u, hu, rfl⟩ := List.mem_map.1 (hp.subset hx)
      exact (hdg u hu).turn hk
    · obtain ⟨u, hu, rfl⟩ := List.mem_map.1 (hp.subset hx)
      obtain ⟨v, hv, rfl⟩ := List.mem_map.1 (hp.subset hy)
      exact cr_turn (hdg u hu) (hdg v hv) hk (hcr u hu v hv)
  refine ⟨hT, ?_⟩
  unfold tnR
  rw [if_pos ⟨hT, hk'⟩]
  congr 1
  have e1 : (d.map (trow n k)).map (trow n k') = d := by
    rw [List.map_map]
    exact (List.map_congr_left fun x hx => hbk x hx).trans (List.map_id d)
  have hp2 : ((putsG [] ltL (d.map (trow n k))).map (trow n k')).Perm d := by
    have := hp.map (trow n k')
    rwa [e1] at this
  rw [putsG_of_perm [] (lt := ltL) ltL_total (hp2.nodup_iff.2 hnd) hp2]
  exact putsG_id [] (lt := ltL) ltL_total has
/-- the ears -/
def frB (d : List (List Int)) (c : Int) : Bool := d.all fun x => decide (e0 x ≠ c) && decide (e1 x ≠ c)
def earL (d : List (List Int)) (k : Nat) : List Int := (List.range k).flatMap fun (i : Nat) => if frB d (i : Int) = true then [(i : Int)] else []
theorem earL_succ (d : List (List Int)) (k : Nat) : earL d (k + 1) = earL d k ++ (if frB d (k : Int) = true then [(k : Int)] else []) := by simp [earL, List.range_succ]
theorem earL_len (d : List (List Int)) : ∀ k, (earL d k).length ≤ k
  | 0 => Nat.le_refl _
  | k + 1 => by
    rw [earL_succ, List.length_append]
    have := earL_len d k
    split <;> simp <;> omega
def eaR (n : Int) (d : List (List Int)) : List Int := if TriP n d then earL d n.toNat else []
/-- the test of every tree of a size -/
def allT : Nat → Nat → (Tr → Bool) → Bool
  | _, 0, k => k .lf
  | 0, _ + 1, _ => true
  | f + 1, n + 1, k => (List.range (n + 1)).all fun i => allT f i fun a => allT f (n - i) fun b => k (.nd a b)
theorem allT_sound : ∀ (f : Nat) (T : Tr) (k : Tr → Bool), T.size ≤ f → allT f T.size k = true → k T = true
  | f, .lf, k, _, h => by cases f <;> exact h
  | 0, .nd a b, k, h, _ => by have : (Tr.nd a b).size = a.size + b.size + 1 := rfl; omega
  | f + 1, .nd a b, k, h, ht => by
    have hs : (Tr.nd a b).size = a.size + b.size + 1 := rfl
    rw [hs] at ht h
    unfold allT at ht
    have h1 := List.all_eq_true.1 ht a.size (List.mem_range.2 (by omega))
    have h2 := allT_sound f a _ (by omega) h1
    rw [show a.size + b.size - a.size = b.size by omega] at h2
    exact allT_sound f b _ (by omega) h2
def eqT : Tr → Tr → Bool
  | .lf, .lf => true
  | .nd a b, .nd c d => eqT a c && eqT b d
  | _, _ => false
theorem eqT_eq : ∀ {a b : Tr}, eqT a b = true → a = b
  | .lf, .lf, _ => rfl
  | .lf, .nd _ _, h => by cases h
  | .nd _ _, .lf, h => by cases h
  | .nd a b, .nd c d, h => by
    unfold eqT at h
    rw [Bool.and_eq_true] at h
    rw [eqT_eq h.1, eqT_eq h.2]
def tE (T : Tr) : Bool := (fun (e : List (List Int)) (n : Int) => decide (TriP n e) && (eqT (tOf e 10 0 (n - 1)) T && (decide (n ≤ 3) || decide (2 ≤ (earL e n.toNat).length)))) (putsG [] ltL (dgs T)) ((T.size : Int) + 2)
set_option maxRecDepth 100000 in
theorem tE_five : ((List.range 6).all fun n => allT 6 n tE) = true := by decide +kernel
set_option maxRecDepth 100000 in
theorem tE_six : allT 6 6 tE = true := by decide +kernel
structure TrF (T : Tr) : Prop where
  tri : TriP ((T.size : Int) + 2) (putsG [] ltL (dgs T))
  back : tOf (putsG [] ltL (dgs T)) 10 0 ((T.size : Int) + 2 - 1) = T
  ears : 3 < (T.size : Int) + 2 → 2 ≤ (earL (putsG [] ltL (dgs T)) ((T.size : Int) + 2).toNat).length
theorem tr_facts {T : Tr} (h : T.size ≤ 6) : TrF T := by
  have hT : tE T = true := by
    by_cases h6 : T.size = 6
    · exact allT_sound 6 T tE h (by rw [h6]; exact tE_six)
    · exact allT_sound 6 T tE h (List.all_eq_true.1 tE_five T.size (List.mem_range.2 (by omega)))
  unfold tE at hT
  simp only [Bool.and_eq_true, decide_eq_true_eq, Bool.or_eq_true] at hT
  exact ⟨hT.1, eqT_eq hT.2.1, fun h => by rcases hT.2.2 with q | q; omega; exact q⟩
end Go.Proofs.Ytnkkgfeegaiakaa
