/- Plain words for the law on partitions: what tests of all short paths and of all short partitions tell; renumbered blocks are a partition. No condition. -/
import Derived.Test.YtnkkgfeegaiakaaGround
import Derived.Test.YtnkkgfeegaiakaaPlain19
import Derived.Test.YtnkkgfeegaiakaaPlain18
import Derived.Test.YtnkkgfeegaiakaaPlain6
import Derived.Test.YtnkkgfeegaiakaaPathStat
import Derived.Test.YtnkkgfeegaiakaaPartTurn
namespace Go.Proofs.Ytnkkgfeegaiakaa
theorem nextOf_app (p r : List Int) {k : Nat} (h : k ≤ p.length) : nextOf (p ++ r) k = nextOf p k := by
  unfold nextOf
  rw [List.take_append_of_le_length h]
theorem nextOf_nonneg (p : List Int) : ∀ k, k ≤ p.length → 0 ≤ nextOf p k := by
  intro k
  induction k with
  | zero => intro _; exact Int.le_refl _
  | succ k ih =>
    intro hk
    rw [nextOf_succ p k hk]
    have := ih (by omega)
    omega
theorem part_snoc {p : List Int} {v : Int} (h : PartP p) (hl : p.length < 8) (h0 : 0 ≤ v) (h1 : v ≤ nextOf p p.length) : PartP (p ++ [v]) ∧ nextOf (p ++ [v]) (p.length + 1) = max (nextOf p p.length) (v + 1) := by
  refine ⟨⟨by simp; omega, fun k hk => ?_⟩, ?_⟩
  · have hk1 : k < p.length + 1 := by simpa using hk
    unfold PartOk
    rw [getD_of hk, nextOf_app p [v] (by omega)]
    by_cases e : k < p.length
    · rw [List.getElem_append_left e]
      have := h.2 k e
      unfold PartOk at this
      rw [getD_of e] at this
      exact this
    · obtain rfl : k = p.length := by omega
      simp
      exact ⟨h0, h1⟩
  · rw [nextOf_succ _ _ (by simp), nextOf_app p [v] (Nat.le_refl _)]
    simp
theorem rn_part : ∀ (n : Nat) (l : List Int), l.length = n → n ≤ 8 → PartP (rnL l) ∧ nextOf (rnL l) n = (((nm l).length : Nat) : Int) := by
  intro n
  induction n with
  | zero =>
    intro l hl _
    obtain rfl := List.eq_nil_of_length_eq_zero hl
    exact ⟨⟨by simp [rnL], fun k hk => by simp [rnL] at hk⟩, rfl⟩
  | succ n ih =>
    intro l hl h8
    obtain ⟨y, x, rfl⟩ : ∃ y x, l = y ++ [x] := ⟨l.dropLast, l.getLast (by intro e; subst e; simp at hl), (List.dropLast_concat_getLast _).symm⟩
    have hy : y.length = n := by simpa using hl
    obtain ⟨h1, h2⟩ := ih y hy (by omega)
    have hlen : (rnL y).length = n := by rw [rnL_len, hy]
    by_cases hx : x ∈ nm y
    · obtain ⟨e1, e2⟩ := rnL_snoc_old hx
      rw [e1, e2]
      have hlt := ix_lt hx
      have := part_snoc (v := ((ix (nm y) x : Nat) : Int)) h1 (by omega) (by omega) (by rw [hlen, h2]; omega)
      rw [hlen, h2] at this
      refine ⟨this.1, this.2.trans ?_⟩
      omega
    · obtain ⟨e1, e2⟩ := rnL_snoc_new hx
      rw [e1, e2]
      have := part_snoc (v := (((nm y).length : Nat) : Int)) h1 (by omega) (by omega) (by rw [hlen, h2]; omega)
      rw [hlen, h2] at this
      refine ⟨this.1, this.2.trans ?_⟩
      rw [List.length_append, List.length_singleton]
      omega
theorem rnR_part {l : List Int} (h : (rnR l).2 = true) : PartP (rnR l).1 := by
  unfold rnR at *
  by_cases h8 : l.length ≤ 8
  · rw [if_pos h8]; exact (rn_part _ l rfl h8).1
  · rw [if_neg h8] at h; cases h
/-- the same question, asked faster -/
def nonF (p : List Int) : Bool := allB p.length fun a => allB p.length fun c => !(decide (a < c) && decide (p.getD a 0 = p.getD c 0)) || allB p.length fun b => !(decide (a < b) && (decide (b < c) && decide (p.getD a 0 ≠ p.getD b 0))) || allB p.length fun d => !(decide (c < d) && decide (p.getD b 0 = p.getD d 0))
theorem nonF_iff {p : List Int} : nonF p = true ↔ quadsB p = true := by
  unfold nonF
  rw [quadsB_iff]
  simp only [allB_iff, Bool.or_eq_true, Bool.not_eq_true', Bool.and_eq_false_iff, decide_eq_false_iff_not, QuadOk]
  constructor
  · intro h a ha b hb c hc d hd q1 q2 q3 ⟨e1, e2, e3⟩
    rcases h a ha c hc with (h | h) | h
    · omega
    · exact h e1
    · rcases h b hb with (h | (h | h)) | h
      · omega
      · omega
      · exact h e3
      · rcases h d hd with h | h
        · omega
        · exact h e2
  · intro h a ha c hc
    by_cases q : a < c ∧ p.getD a 0 = p.getD c 0
    · right
      intro b hb
      by_cases q2 : a < b ∧ b < c ∧ p.getD a 0 ≠ p.getD b 0
      · right
        intro d hd
        by_cases q3 : c < d ∧ p.getD b 0 = p.getD d 0
        · exact (h a ha b hb c hc d hd q2.1 q2.2.1 q3.1 ⟨q.2, q3.2, q2.2.2⟩).elim
        · by_cases q4 : c < d
          · exact .inr fun e => q3 ⟨q4, e⟩
          · exact .inl q4
      · left
        by_cases q4 : a < b
        · right
          by_cases q5 : b < c
          · exact .inr fun e => q2 ⟨q4, q5, e⟩
          · exact .inl q5
        · exact .inl q4
    · left
      by_cases q4 : a < c
      · exact .inr fun e => q ⟨q4, e⟩
      · exact .inl q4
theorem nonP_F (p : List Int) : decide (NonP p) = (decide (PartP p) && nonF p) := by
  by_cases h : NonP p
  · rw [decide_eq_true h, decide_eq_true h.1, nonF_iff.2 h.2]; rfl
  · rw [decide_eq_false h]
    by_cases h1 : PartP p
    · rw [decide_eq_true h1, Bool.true_and]
      cases h2 : nonF p with
      | false => rfl
      | true => exact absurd ⟨h1, nonF_iff.1 h2⟩ h
    · rw [decide_eq_false h1]; rfl
/-- turned n times -/
def turnsP : Nat → List Int → List Int
  | 0, p => p
  | n + 1, p => turnsP n (tpR p).1
def u8d8 : List UInt8 := List.replicate 8 cU ++ List.replicate 8 cD
theorem part_all {f : List Int → Bool} {m : Nat} (h : ((List.range m).all fun n => tstL candP f n []) = true) {p : List Int} (hp : PartP p) (hl : p.length < m) : f p = true :=
  part_tst (List.all_eq_true.1 h p.length (List.mem_range.2 hl)) hp rfl
theorem tpR_yes (p : List Int) : (tpR p).2 = decide (PartP p) := by
  unfold tpR
  by_cases h : PartP p
  · rw [if_pos h, decide_eq_true h]; split <;> rfl
  · rw [if_neg h, decide_eq_false h]
/-- the texts that the draws give: short ones, and six more -/
def Short (l : List UInt8) : Prop := l.length ≤ 13 ∨ l = u8d8
theorem path_tst {f : List UInt8 → Bool} (h : tstAll f 6 = true) (h8 : f u8d8 = true) {l : List UInt8} (hs : Short l) (hd : DyckP l) : f l = true := by
  rcases hs with hs | rfl
  · refine tstAll_sound h hd ?_
    have := dyck_half hd
    omega
  · exact h8
end Go.Proofs.Ytnkkgfeegaiakaa
