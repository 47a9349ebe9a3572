/- Plain words on brackets: which texts are a path's brackets; the shift of a path; partners of partners. No condition but what each lemma says. -/
import Derived.Test.YtnkkgfeegaiakaaPathBr
import Derived.Test.YtnkkgfeegaiakaaPlain31
namespace Go.Proofs.Ytnkkgfeegaiakaa
open Go.RowKit
def unC (c : UInt8) : UInt8 := if c.toNat = 40 then 117 else 100
def isB (c : UInt8) : Bool := decide (c.toNat = 40) || decide (c.toNat = 41)
def unb (l : List UInt8) : List UInt8 := l.map unC
theorem unb_len (l : List UInt8) : (unb l).length = l.length := by simp [unb]
/-- a path's brackets -/
def BrP (l : List UInt8) : Prop := l.all isB = true ∧ DyckP (unb l)
instance (l : List UInt8) : Decidable (BrP l) := by unfold BrP; exact inferInstance
theorem brC_unC {c : UInt8} (h : isB c = true) : brC (unC c) = c := by
  unfold isB at h
  rw [Bool.or_eq_true, decide_eq_true_eq, decide_eq_true_eq] at h
  rcases h with h | h
  · obtain rfl : c = 40 := UInt8.toNat_inj.1 h
    decide
  · obtain rfl : c = 41 := UInt8.toNat_inj.1 h
    decide
theorem brk_unb : ∀ {l : List UInt8}, l.all isB = true → brk (unb l) = l
  | [], _ => rfl
  | c :: l, h => by
    rw [List.all_cons, Bool.and_eq_true] at h
    have := brk_unb h.2
    show brC (unC c) :: brk (unb l) = _
    rw [brC_unC h.1, this]
theorem brk_isB : ∀ (l : List UInt8), (brk l).all isB = true
  | [] => rfl
  | c :: l => by
    show (isB (brC c) && (brk l).all isB) = true
    rw [brk_isB l, Bool.and_true]
    unfold brC
    split <;> rfl
theorem unb_brk {l : List UInt8} (h : DyckP l) : unb (brk l) = l := by
  unfold unb brk
  rw [List.map_map]
  apply List.ext_getElem (by simp)
  intro k h1 h2
  rw [List.getElem_map]
  show unC (brC l[k]) = l[k]
  rcases dyck_letter h h2 with q | q
  · rw [UInt8.toNat_inj.1 (show l[k].toNat = (117 : UInt8).toNat from q)]; decide
  · rw [UInt8.toNat_inj.1 (show l[k].toNat = (100 : UInt8).toNat from q)]; decide
theorem BrP.of {l : List UInt8} (h : DyckP l) : BrP (brk l) := ⟨brk_isB l, by rw [unb_brk h]; exact h⟩
/-- the shift of a path: the first letter away, its partner up, one down at the end -/
def shG : Nat → List UInt8 → List UInt8
  | _, [] => []
  | h, c :: l => if c.toNat = 117 then c :: shG (h + 1) l else if h = 1 then cU :: l else c :: shG (h - 1) l
def shP : List UInt8 → List UInt8
  | [] => []
  | _ :: l => shG 1 l ++ [cD]
def itS : Nat → List UInt8 → List UInt8
  | 0, l => l
  | n + 1, l => itS n (shP l)
theorem itS_succ : ∀ (n : Nat) (l : List UInt8), itS (n + 1) l = shP (itS n l)
  | 0, _ => rfl
  | n + 1, l => itS_succ n (shP l)
def eqL : List UInt8 → List UInt8 → Bool
  | [], [] => true
  | a :: x, b :: y => Nat.beq a.toNat b.toNat && eqL x y
  | _, _ => false
theorem eqL_eq : ∀ {a b : List UInt8}, eqL a b = true → a = b
  | [], [], _ => rfl
  | [], _ :: _, h => by cases h
  | _ :: _, [], h => by cases h
  | a :: x, b :: y, h => by
    unfold eqL at h
    rw [Bool.and_eq_true] at h
    rw [eqL_eq h.2, UInt8.toNat_inj.1 (Nat.eq_of_beq_eq_true h.1)]
def tS (l : List UInt8) : Bool := eqL (itS l.length l) l && (decide (DyckP (shP l)) && (Nat.beq (shP l).length l.length && (l.isEmpty || eqL (shP l) ((l.set ((prt l).getD 0 0).toNat cU).tail ++ [cD]))))
set_option maxRecDepth 100000 in
theorem tS_all : tstAll tS 6 = true := by decide +kernel
def tM (l : List UInt8) : Bool := l.isEmpty || decide (pomR (turnR (mofR l).1 1).1 = (shP l, true))
set_option maxRecDepth 100000 in
theorem tM_all : tstAll tM 6 = true := by decide +kernel
structure ShF (l : List UInt8) : Prop where
  back : itS l.length l = l
  dyck : DyckP (shP l)
  len : (shP l).length = l.length
theorem sh_facts {l : List UInt8} (hd : DyckP l) (hl : l.length ≤ 12) : ShF l := by
  have h := tstAll_sound tS_all hd hl
  unfold tS at h
  simp only [Bool.and_eq_true, decide_eq_true_eq] at h
  exact ⟨eqL_eq h.1, h.2.1, Nat.eq_of_beq_eq_true h.2.2.1⟩
theorem sh_set {l : List UInt8} (hd : DyckP l) (hl : l.length ≤ 12) (h0 : l ≠ []) : shP l = (l.set ((prt l).getD 0 0).toNat cU).tail ++ [cD] := by
  have h := tstAll_sound tS_all hd hl
  unfold tS at h
  simp only [Bool.and_eq_true, decide_eq_true_eq, Bool.or_eq_true] at h
  rcases h.2.2.2 with h | h
  · exact absurd (List.isEmpty_iff.1 h) h0
  · exact eqL_eq h
theorem sh_match {l : List UInt8} (hd : DyckP l) (hl : l.length ≤ 12) (h0 : l ≠ []) : pomR (turnR (mofR l).1 1).1 = (shP l, true) := by
  have h := tstAll_sound tM_all hd hl
  unfold tM at h
  simp only [decide_eq_true_eq, Bool.or_eq_true] at h
  rcases h with h | h
  · exact absurd (List.isEmpty_iff.1 h) h0
  · exact h
theorem it_dyck {l : List UInt8} (hd : DyckP l) (hl : l.length ≤ 12) : ∀ n, DyckP (itS n l) ∧ (itS n l).length = l.length
  | 0 => ⟨hd, rfl⟩
  | n + 1 => by
    obtain ⟨h1, h2⟩ := it_dyck hd hl n
    have h := sh_facts h1 (by omega)
    rw [itS_succ]
    exact ⟨h.dyck, by rw [h.len, h2]⟩
/-- the shifted brackets as the program and the reference write them -/
theorem brk_shP {l : List UInt8} (hd : DyckP l) (hl : l.length ≤ 12) (h0 : l ≠ []) {j : Nat} (hj : (prt l).getD 0 0 = (j : Int)) (hjl : j < l.length) (hj0 : 0 < j) :
    brk (shP l) = ((brk l).set j 40).tail ++ [41] ∧ brk (shP l) = ((brk l).take j).drop 1 ++ [40] ++ (brk l).drop (j + 1) ++ [41] := by
  have e := sh_set hd hl h0
  rw [hj, Int.toNat_natCast] at e
  have e1 : brk (shP l) = ((brk l).set j 40).tail ++ [41] := by
    rw [e]
    unfold brk
    rw [List.map_append, List.map_tail, List.map_set]
    rfl
  refine ⟨e1, ?_⟩
  rw [e1, List.set_eq_take_append_cons_drop, if_pos (by rw [brk_len]; exact hjl)]
  have h1 : 0 < ((brk l).take j).length := by rw [List.length_take, brk_len]; omega
  cases h2 : (brk l).take j with
  | nil => rw [h2] at h1; simp at h1
  | cons a t => simp
theorem Arc.uniq {l : List UInt8} {i j k : Nat} (a : Arc l i j) (b : Arc l i k) : j = k := by
  rcases Nat.lt_trichotomy j k with q | q | q
  · have := b.2.2.2 (j + 1) (by have := a.1; omega) (by omega)
    have := a.2.2.1
    omega
  · exact q
  · have := a.2.2.2 (k + 1) (by have := b.1; omega) (by omega)
    have := b.2.2.1
    omega
theorem Arc.uniq2 {l : List UInt8} {i j k : Nat} (a : Arc l i j) (b : Arc l k j) : i = k := by
  rcases Nat.lt_trichotomy i k with q | q | q
  · have := a.2.2.2 k q (by have := b.1; omega)
    have := a.2.2.1
    have := b.2.2.1
    omega
  · exact q
  · have := b.2.2.2 i q (by have := a.1; omega)
    have := a.2.2.1
    have := b.2.2.1
    omega
theorem prt_back {l : List UInt8} (hd : DyckP l) {i j : Nat} (hi : i < l.length) (h : (prt l).getD i 0 = (j : Int)) : j < l.length ∧ j ≠ i ∧ (prt l).getD j 0 = (i : Int) ∧ Pr l i j := by
  obtain ⟨j', h1, h2⟩ := prt_at hd hi
  rw [h] at h1
  have ej : j = j' := by omega
  subst ej
  have hj : j < l.length := by
    rcases h2 with q | q
    · exact q.2.1
    · have := q.1; have := q.2.1; omega
  obtain ⟨k, h3, h4⟩ := prt_at hd hj
  refine ⟨hj, ?_, ?_, h2⟩
  · rcases h2 with q | q <;> (have := q.1; omega)
  · rw [h3]
    have : k = i := by
      rcases h2 with q | q
      · rcases h4 with r | r
        · obtain ⟨_, c1⟩ := r.left hd
          obtain ⟨_, c2⟩ := q.right hd
          exact absurd c1 c2
        · exact (q.uniq2 r).symm
      · rcases h4 with r | r
        · exact (q.uniq r).symm
        · obtain ⟨_, c1⟩ := q.left hd
          obtain ⟨_, c2⟩ := r.right hd
          exact absurd c1 c2
    rw [this]
/-- the partner that both return -/
def ptnR (l : List UInt8) (i : Int) : Int := if BrP l ∧ (0 ≤ i ∧ i ≤ (l.length : Int) - 1) then (prt (unb l)).getD i.toNat 0 else -1
end Go.Proofs.Ytnkkgfeegaiakaa
