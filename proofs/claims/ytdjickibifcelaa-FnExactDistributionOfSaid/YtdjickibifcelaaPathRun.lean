/- The run of equal letters at a word's begin or end: the reference's l13Run. Condition: the word's size. -/
import Derived.Test.YtdjickibifcelaaPathDepth
namespace Go.Proofs.Ytdjickibifcelaa
open Go.RowKit
/-- how many letters at the begin are up -/
def runU (l : List UInt8) : Nat := (l.takeWhile fun c => decide (c.toNat = 117)).length
/-- how many letters at the end are down -/
def runD (l : List UInt8) : Nat := (l.reverse.takeWhile fun c => decide (c.toNat = 100)).length
theorem tw_len {p : UInt8 → Bool} : ∀ (l : List UInt8) (k : Nat), k ≤ l.length → (∀ i (hi : i < l.length), i < k → p l[i] = true) → (∀ (hk : k < l.length), p l[k] = false) → (l.takeWhile p).length = k
  | [], k, h, _, _ => by simp at h; subst h; rfl
  | c :: l, 0, _, _, h => by
    have h0 : p c = false := h (by simp)
    simp [List.takeWhile, h0]
  | c :: l, k + 1, hk, ha, he => by
    have h0 : p c = true := ha 0 (by simp) (by omega)
    have ih := tw_len (p := p) l k (by simpa using hk) (fun i hi hik => ha (i + 1) (by simpa using hi) (by omega)) (fun hk' => he (by simpa using hk'))
    simp [List.takeWhile, h0, ih]
theorem runU_at {s : ByteArray} {k : Nat} (hk : k ≤ s.size) (ha : ∀ i (hi : i < s.size), i < k → s[i].toNat = 117) (he : ∀ (h : k < s.size), ¬ s[k].toNat = 117) : runU (L s) = k :=
  tw_len _ _ (by rw [L_len]; exact hk) (fun i hi hik => by rw [L_get s i (by rw [← L_len]; exact hi)]; exact decide_eq_true (ha i _ hik)) (fun h => by rw [L_get s k (by rw [← L_len]; exact h)]; exact decide_eq_false (he _))
theorem runD_at {s : ByteArray} {k : Nat} (hk : k ≤ s.size) (ha : ∀ i (hi : s.size - 1 - i < s.size), i < k → s[s.size - 1 - i].toNat = 100) (he : ∀ (h : s.size - 1 - k < s.size), k < s.size → ¬ s[s.size - 1 - k].toNat = 100) : runD (L s) = k :=
  tw_len _ _ (by rw [List.length_reverse, L_len]; exact hk)
    (fun i hi hik => by
      rw [List.length_reverse, L_len] at hi
      have e : (L s).reverse[i]'(by rw [List.length_reverse, L_len]; exact hi) = s[s.size - 1 - i]'(by omega) := by rw [List.getElem_reverse]; simp only [L_len]; rfl
      rw [e]; exact decide_eq_true (ha i (by omega) hik))
    (fun h => by
      rw [List.length_reverse, L_len] at h
      have e : (L s).reverse[k]'(by rw [List.length_reverse, L_len]; exact h) = s[s.size - 1 - k]'(by omega) := by rw [List.getElem_reverse]; simp only [L_len]; rfl
      rw [e]; exact decide_eq_false (he (by omega) h))
set_option maxHeartbeats 1000000 in
theorem specRunU_any (s : ByteArray) (w : World) (hs : s.size ≤ 1099511627776) :
    Calls Try.prog 92 #[.string s, .bool false] w fun e w' => e = .returned (.int .i64 ((runU (L s) : Nat) : Int)) ∧ w = w' := by
  go_enter Try.func92, Try.ntmps92
  go_wp2_with fail
  go_loop [5] (fun i => ∃ k : Nat, k ≤ s.size ∧ i = .int .i64 k ∧ Hid (∀ j (hj : j < s.size), j < k → s[j].toNat = 117)) (fun i => s.size - (intOf i).toNat)
  case atStart => exact ⟨0, by omega, rfl, Lib.hid (fun j _ h => absurd h (by omega))⟩
  case round =>
    obtain ⟨k, hk, rfl, HA⟩ := hrel
    by_cases hlt : k < s.size
    · have hk0 : 0 ≤ (k : Int) := by omega
      by_cases hu : s[k].toNat = 117
      · have HA' : Hid (∀ j (hj : j < s.size), j < k + 1 → s[j].toNat = 117) := Lib.hid (fun j hj hjk => by
          rcases Nat.lt_or_ge j k with h | h
          · exact HA.out j hj h
          · obtain rfl : j = k := by omega
            exact hu)
        have f1 : (((s[k].toNat : Nat) : Int) == 117) = true := by simp; omega
        clear hu
        go_wp2_with fail
        go_round
        case rel => exact ⟨k + 1, by omega, by go_num, HA'⟩
        case measure => simp [intOf]; omega
      · have HV := Lib.hid (show runU (L s) = k from runU_at hk HA.out (fun _ => hu))
        have f1 : (((s[k].toNat : Nat) : Int) == 117) = false := by simp; omega
        clear hu
        go_wp2_with fail
        go_ret
        exact ⟨ret_int (by rw [HV.out]), rfl⟩
    · have hke : k = s.size := by omega
      have HV := Lib.hid (show runU (L s) = k from runU_at hk HA.out (fun h => absurd h (by omega)))
      subst hke
      go_wp2_with fail
      go_ret
      exact ⟨ret_int (by rw [HV.out]), rfl⟩
set_option maxHeartbeats 1000000 in
theorem specRunD_any (s : ByteArray) (w : World) (hs : s.size ≤ 1099511627776) :
    Calls Try.prog 92 #[.string s, .bool true] w fun e w' => e = .returned (.int .i64 ((runD (L s) : Nat) : Int)) ∧ w = w' := by
  go_enter Try.func92, Try.ntmps92
  go_wp2_with fail
  go_loop [5] (fun i => ∃ k : Nat, k ≤ s.size ∧ i = .int .i64 k ∧ Hid (∀ j (hj : s.size - 1 - j < s.size), j < k → s[s.size - 1 - j].toNat = 100)) (fun i => s.size - (intOf i).toNat)
  case atStart => exact ⟨0, by omega, rfl, Lib.hid (fun j _ h => absurd h (by omega))⟩
  case round =>
    obtain ⟨k, hk, rfl, HA⟩ := hrel
    by_cases hlt : k < s.size
    · have hk1 : s.size - 1 - k < s.size := by omega
      have hq : (s.size : Int) - 1 - (k : Int) = ((s.size - 1 - k : Nat) : Int) := by omega
      by_cases hu : s[s.size - 1 - k].toNat = 100
      · have HA' : Hid (∀ j (hj : s.size - 1 - j < s.size), j < k + 1 → s[s.size - 1 - j].toNat = 100) := Lib.hid (fun j hj hjk => by
          rcases Nat.lt_or_ge j k with h | h
          · exact HA.out j hj h
          · obtain rfl : j = k := by omega
            exact hu)
        have f1 : (((s[s.size - 1 - k].toNat : Nat) : Int) == 100) = true := by simp; omega
        clear hu
        go_wp2_with fail
        go_round
        case rel => exact ⟨k + 1, by omega, by go_num, HA'⟩
        case measure => simp [intOf]; omega
      · have HV := Lib.hid (show runD (L s) = k from runD_at hk HA.out (fun _ _ => hu))
        have f1 : (((s[s.size - 1 - k].toNat : Nat) : Int) == 100) = false := by simp; omega
        clear hu
        go_wp2_with fail
        go_ret
        exact ⟨ret_int (by rw [HV.out]), rfl⟩
    · have hke : k = s.size := by omega
      have HV := Lib.hid (show runD (L s) = k from runD_at hk HA.out (fun _ h => absurd h (by omega)))
      subst hke
      go_wp2_with fail
      go_ret
      exact ⟨ret_int (by rw [HV.out]), rfl⟩
end Go.Proofs.Ytdjickibifcelaa
