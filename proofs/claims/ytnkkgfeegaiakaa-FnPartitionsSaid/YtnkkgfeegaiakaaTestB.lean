/- What a test of all partitions of at most six elements tells of turns. No condition. -/
import Derived.Test.YtnkkgfeegaiakaaPlain29
namespace Go.Proofs.Ytnkkgfeegaiakaa
/-- the test of a partition -/
def tB (p : List Int) : Bool := decide (PartP (tpR p).1) && (decide ((tpR p).1.length = p.length) && ((nonF (tpR p).1 == nonF p) && (decide ((blocksR (tpR p).1).length = (blocksR p).length) && decide (turnsP p.length p = p))))
set_option maxRecDepth 100000 in
theorem tB_all : ((List.range 6).all fun n => tstL candP tB n []) = true := by decide +kernel
set_option maxRecDepth 100000 in
theorem tB_six : tstL candP tB 6 [] = true := by decide +kernel
structure TurnFacts (p : List Int) : Prop where
  part : PartP (tpR p).1
  len : (tpR p).1.length = p.length
  non : decide (NonP (tpR p).1) = decide (NonP p)
  blocks : (blocksR (tpR p).1).length = (blocksR p).length
  back : turnsP p.length p = p
theorem turn_facts {p : List Int} (hp : PartP p) (hl : p.length ≤ 6) : TurnFacts p := by
  have h : tB p = true := by
    by_cases h6 : p.length = 6
    · exact part_tst tB_six hp h6
    · exact part_all tB_all hp (by omega)
  unfold tB at h
  simp only [Bool.and_eq_true, decide_eq_true_eq, beq_iff_eq] at h
  exact ⟨h.1, h.2.1, by rw [nonP_F, nonP_F, decide_eq_true h.1, decide_eq_true hp, h.2.2.1], h.2.2.2.1, h.2.2.2.2⟩
theorem turnsP_facts : ∀ (n : Nat) {p : List Int}, PartP p → p.length ≤ 6 → PartP (turnsP n p) ∧ (turnsP n p).length = p.length := by
  intro n
  induction n with
  | zero => intro p hp _; exact ⟨hp, rfl⟩
  | succ n ih =>
    intro p hp hl
    have h := turn_facts hp hl
    have := ih h.part (by rw [h.len]; exact hl)
    exact ⟨this.1, this.2.trans h.len⟩
theorem turnsP_snoc : ∀ (n : Nat) (p : List Int), turnsP (n + 1) p = (tpR (turnsP n p)).1 := by
  intro n
  induction n with
  | zero => intro p; rfl
  | succ n ih => intro p; exact ih (tpR p).1
end Go.Proofs.Ytnkkgfeegaiakaa
