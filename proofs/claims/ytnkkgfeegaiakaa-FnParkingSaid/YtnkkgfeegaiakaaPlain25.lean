/- All paths of a size in order, and counting them by a statistic, in plain words. No condition. -/
import Derived.Test.YtnkkgfeegaiakaaGround
namespace Go.Proofs.Ytnkkgfeegaiakaa
/-- the words behind w with up letters u and down letters d to come, u ahead of d -/
def allP : Nat → List UInt8 → Nat → Nat → List (List UInt8)
  | 0, w, _, _ => [w]
  | n + 1, w, up, down => (if 0 < up then allP n (w ++ [cU]) (up - 1) down else []) ++ (if up < down then allP n (w ++ [cD]) up (down - 1) else [])
theorem allP_zero (w : List UInt8) : allP 0 w 0 0 = [w] := rfl
theorem allP_step {w : List UInt8} {up down : Nat} (h : 0 < up + down) : allP (up + down) w up down = (if 0 < up then allP (up - 1 + down) (w ++ [cU]) (up - 1) down else []) ++ (if up < down then allP (up + (down - 1)) (w ++ [cD]) up (down - 1) else []) := by
  obtain ⟨n, hn⟩ : ∃ n, up + down = n + 1 := ⟨up + down - 1, by omega⟩
  rw [hn]
  show (if 0 < up then allP n (w ++ [cU]) (up - 1) down else []) ++ (if up < down then allP n (w ++ [cD]) up (down - 1) else []) = _
  congr 1
  · split
    · rw [show up - 1 + down = n by omega]
    · rfl
  · split
    · rw [show up + (down - 1) = n by omega]
    · rfl
theorem cU_nat : cU.toNat = 117 := rfl
theorem cD_nat : cD.toNat = 100 := rfl
/-- each of the words is a path -/
theorem allP_dyck : ∀ (n : Nat) (w : List UInt8) (up down : Nat), n = up + down → up ≤ down → scan w = some (down - up) → ∀ x ∈ allP n w up down, scan x = some 0 ∧ x.length = w.length + n := by
  intro n
  induction n with
  | zero =>
    intro w up down h hle hs x hx
    obtain rfl : x = w := by simpa [allP] using hx
    exact ⟨by rw [hs]; congr 1; omega, rfl⟩
  | succ n ih =>
    intro w up down h hle hs x hx
    rw [show allP (n + 1) w up down = (if 0 < up then allP n (w ++ [cU]) (up - 1) down else []) ++ (if up < down then allP n (w ++ [cD]) up (down - 1) else []) from rfl, List.mem_append] at hx
    rcases hx with hx | hx
    · by_cases h0 : 0 < up
      · rw [if_pos h0] at hx
        have := ih (w ++ [cU]) (up - 1) down (by omega) (by omega) (by
          unfold scan at hs ⊢
          rw [List.foldl_append, hs]
          simp [stepD, cU_nat]; omega) x hx
        refine ⟨this.1, ?_⟩
        rw [this.2]; simp; omega
      · rw [if_neg h0] at hx; cases hx
    · by_cases h0 : up < down
      · rw [if_pos h0] at hx
        have := ih (w ++ [cD]) up (down - 1) (by omega) (by omega) (by
          unfold scan at hs ⊢
          rw [List.foldl_append, hs]
          obtain ⟨t, ht⟩ : ∃ t, down - up = t + 1 := ⟨down - up - 1, by omega⟩
          rw [ht]
          simp [stepD, cD_nat]; omega) x hx
        refine ⟨this.1, ?_⟩
        rw [this.2]; simp; omega
      · rw [if_neg h0] at hx; cases hx
def pathsL (n : Nat) : List (List UInt8) := allP (n + n) [] n n
theorem pathsL_dyck {n : Nat} (hn : n ≤ 6) {x : List UInt8} (hx : x ∈ pathsL n) : DyckP x ∧ x.length = 2 * n := by
  have := allP_dyck (n + n) [] n n rfl (Nat.le_refl _) (by show some 0 = _; congr 1; omega) x hx
  refine ⟨⟨by rw [this.2]; simp; omega, this.1⟩, by rw [this.2]; simp; omega⟩
/-- at most 2 ^ n words -/
theorem allP_len : ∀ (n : Nat) (w : List UInt8) (up down : Nat), (allP n w up down).length ≤ 2 ^ n := by
  intro n
  induction n with
  | zero => intro w up down; simp [allP]
  | succ n ih =>
    intro w up down
    rw [show allP (n + 1) w up down = (if 0 < up then allP n (w ++ [cU]) (up - 1) down else []) ++ (if up < down then allP n (w ++ [cD]) up (down - 1) else []) from rfl, List.length_append]
    have h1 := ih (w ++ [cU]) (up - 1) down
    have h2 := ih (w ++ [cD]) up (down - 1)
    have : 2 ^ (n + 1) = 2 ^ n + 2 ^ n := by rw [Nat.pow_succ]; omega
    split <;> split <;> simp <;> omega
theorem allP_pos : ∀ (n : Nat) (w : List UInt8) (up down : Nat), n = up + down → up ≤ down → 0 < (allP n w up down).length := by
  intro n
  induction n with
  | zero => intro w up down _ _; simp [allP]
  | succ n ih =>
    intro w up down h hle
    rw [show allP (n + 1) w up down = (if 0 < up then allP n (w ++ [cU]) (up - 1) down else []) ++ (if up < down then allP n (w ++ [cD]) up (down - 1) else []) from rfl, List.length_append]
    by_cases h0 : 0 < up
    · rw [if_pos h0]
      have := ih (w ++ [cU]) (up - 1) down (by omega) (by omega)
      omega
    · rw [if_pos (show up < down by omega)]
      have := ih (w ++ [cD]) up (down - 1) (by omega) (by omega)
      omega
theorem pathsL_len {n : Nat} (hn : n ≤ 6) : (pathsL n).length ≤ 4096 := by
  have h1 := allP_len (n + n) [] n n
  have h2 : 2 ^ (n + n) ≤ 2 ^ 12 := Nat.pow_le_pow_right (by omega) (by omega)
  unfold pathsL
  omega
theorem pathsL_pos (n : Nat) : 0 < (pathsL n).length := allP_pos _ _ _ _ rfl (Nat.le_refl _)
/-- the paths of a size, none for a size out of range -/
def pathsV (n : Int) : List (List UInt8) := if 0 ≤ n ∧ n ≤ 6 then pathsL n.toNat else []
theorem snoc_ind {α : Type} {P : List α → Prop} (h0 : P []) (h1 : ∀ l x, P l → P (l ++ [x])) (l : List α) : P l := by
  have : ∀ m : List α, P m.reverse := by
    intro m
    induction m with
    | nil => exact h0
    | cons x m ih => rw [List.reverse_cons]; exact h1 _ _ ih
  have := this l.reverse
  rwa [List.reverse_reverse] at this
/-- one more at place k, the list made longer first -/
def padL (o : List Int) (k : Nat) : List Int := o ++ List.replicate (k + 1 - o.length) 0
def incL (o : List Int) (k : Nat) : List Int := (padL o k).set k ((padL o k).getD k 0 + 1)
def disF (f : List UInt8 → Nat) (l : List (List UInt8)) : List Int := l.foldl (fun o w => incL o (f w)) []
theorem padL_len (o : List Int) (k : Nat) : (padL o k).length = max o.length (k + 1) := by unfold padL; simp; omega
theorem incL_len (o : List Int) (k : Nat) : (incL o k).length = max o.length (k + 1) := by unfold incL; rw [List.length_set, padL_len]
theorem disF_snoc (f : List UInt8 → Nat) (l : List (List UInt8)) (w : List UInt8) : disF f (l ++ [w]) = incL (disF f l) (f w) := by simp [disF, List.foldl_append]
theorem disF_len_mono (f : List UInt8 → Nat) (l m : List (List UInt8)) : (disF f l).length ≤ (disF f (l ++ m)).length := by
  refine snoc_ind (P := fun m => (disF f l).length ≤ (disF f (l ++ m)).length) (by simp) (fun m w ih => ?_) m
  rw [← List.append_assoc, disF_snoc, incL_len]; omega
theorem disF_mem (f : List UInt8 → Nat) {l : List (List UInt8)} {w : List UInt8} (h : w ∈ l) : f w < (disF f l).length := by
  obtain ⟨a, b, rfl⟩ := List.append_of_mem h
  have h1 := disF_len_mono f (a ++ [w]) b
  rw [disF_snoc, incL_len, List.append_assoc] at h1
  simp only [List.singleton_append] at h1
  omega
theorem disF_len_le (f : List UInt8 → Nat) {B : Nat} : ∀ (l : List (List UInt8)), (∀ w ∈ l, f w < B) → (disF f l).length ≤ B := by
  intro l
  refine snoc_ind (P := fun l => (∀ w ∈ l, f w < B) → (disF f l).length ≤ B) ?_ ?_ l
  · intro _; simp [disF]
  · intro l w ih h
    have h1 := ih fun x hx => h x (List.mem_append_left _ hx)
    have h2 := h w (by simp)
    rw [disF_snoc, incL_len]; omega
/-- every count lies between 0 and the number of words -/
theorem disF_val (f : List UInt8 → Nat) : ∀ (l : List (List UInt8)), ∀ x ∈ disF f l, 0 ≤ x ∧ x ≤ (l.length : Int) := by
  intro l
  refine snoc_ind (P := fun l => ∀ x ∈ disF f l, 0 ≤ x ∧ x ≤ (l.length : Int)) ?_ ?_ l
  · intro x hx; simp [disF] at hx
  · intro l w ih x hx
    rw [disF_snoc] at hx
    have hp : ∀ y ∈ padL (disF f l) (f w), 0 ≤ y ∧ y ≤ (l.length : Int) := by
      intro y hy
      unfold padL at hy
      rcases List.mem_append.1 hy with hy | hy
      · exact ih y hy
      · have := (List.mem_replicate.1 hy).2; omega
    unfold incL at hx
    rw [List.length_append, List.length_singleton]
    rcases List.mem_or_eq_of_mem_set hx with hx | hx
    · have := hp x hx; omega
    · have hl : f w < (padL (disF f l) (f w)).length := by rw [padL_len]; omega
      have := hp ((padL (disF f l) (f w)).getD (f w) 0) (by rw [getD_of hl]; exact List.getElem_mem hl)
      omega
theorem padL_get (f : List UInt8 → Nat) (l : List (List UInt8)) (k : Nat) : 0 ≤ (padL (disF f l) k).getD k 0 ∧ (padL (disF f l) k).getD k 0 ≤ (l.length : Int) := by
  have hl : k < (padL (disF f l) k).length := by rw [padL_len]; omega
  rw [getD_of hl]
  have hm := List.getElem_mem hl
  unfold padL at hm
  rcases List.mem_append.1 hm with h | h
  · exact disF_val f l _ h
  · have := (List.mem_replicate.1 h).2
    have e : (padL (disF f l) k)[k] = 0 := this
    omega
end Go.Proofs.Ytnkkgfeegaiakaa
