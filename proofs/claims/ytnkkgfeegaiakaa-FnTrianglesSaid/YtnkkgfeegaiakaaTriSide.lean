/- Contracts of the words on joined corners: the program's edge (a closure over the diagonals) and the reference's l7Side. Conditions: rows of two, corners of a small polygon. -/
import Derived.Test.YtnkkgfeegaiakaaPlain33
import Derived.Test.YtnkkgfeegaiakaaGround
namespace Go.Proofs.Ytnkkgfeegaiakaa
open Go.RowKit
theorem box_cell {w : World} {b : Nat} {u : Value} {t : TypeId} (h : w.heap[b]? = some (.cells #[u] t (0, 0))) : w.cell? ⟨b, 0, none⟩ = some u := by simp [World.cell?, h]
def Two (d : List (List Int)) : Prop := ∀ x ∈ d, ∃ p q : Int, x = [p, q]
theorem Two.at_ {d : List (List Int)} (h : Two d) {k : Nat} (hk : k < d.length) : ∃ p q : Int, rowOf d k = [p, q] := by
  rw [rowOf_get hk]; exact h _ (List.getElem_mem hk)
theorem any_step {d : List (List Int)} {k : Nat} (hk : k < d.length) (f : List Int → Bool) : (d.take (k + 1)).any f = ((d.take k).any f || f d[k]) := by
  rw [take_succ_get _ _ hk, List.any_append]; simp
theorem any_hit {d : List (List Int)} {k : Nat} (hk : k < d.length) {f : List Int → Bool} (h : f d[k] = true) : d.any f = true := List.any_eq_true.2 ⟨_, List.getElem_mem hk, h⟩
set_option maxHeartbeats 1000000 in
theorem edge_any (a b : Int) (bd : Nat) (dv : Value) (d : List (List Int)) (w : World) (hb : w.heap[bd]? = some (.cells #[dv] 22 (0, 0))) (hv : RdSS w dv d) (h2 : Two d) (ha : 0 ≤ a ∧ a ≤ 10) (hb2 : 0 ≤ b ∧ b ≤ 10) :
    Calls Try.prog 235 #[.int .i64 a, .int .i64 b, .pointer (some ⟨bd, 0, none⟩)] w fun e w' => e = .returned (.bool (ed d a b)) ∧ w = w' := by
  have hc := box_cell hb
  have HB := Lib.hid hb
  clear hb
  have ew : IntKind.i64.wrap (b - a) = b - a := IntWalk.i64_in _ (by omega)
  by_cases h1 : b - a = 1
  · have f1 : (b - a == 1) = true := beq_iff_eq.2 h1
    have HE := Lib.hid (show ed d a b = true by unfold ed; rw [decide_eq_true h1]; rfl)
    clear h1
    go_enter Try.func235, Try.ntmps235
    go_wp2_with fail
    go_ret
    exact ⟨ret_bool HE.out.symm, rfl⟩
  · have f1 : (b - a == 1) = false := beq_eq_false_iff_ne.2 h1
    have HE := Lib.hid (show ed d a b = d.any (isE a b) by unfold ed; rw [decide_eq_false h1]; rfl)
    clear h1
    obtain ⟨A, c, rfl, _, _, _⟩ := id hv
    go_enter Try.func235, Try.ntmps235
    go_wp2_with fail
    go_loop [14] (fun i => ∃ k : Nat, k ≤ d.length ∧ i = .int .i64 (k : Int) ∧ Hid ((d.take k).any (isE a b) = false)) (fun i => d.length - (intOf i).toNat)
    case atStart => exact ⟨0, by omega, rfl, rfl⟩
    case round =>
      obtain ⟨k, hk, rfl, HN⟩ := hrel
      by_cases hlt : k < d.length
      · have hlti : (k : Int) < (d.length : Int) := by omega
        obtain ⟨p, q, hpq⟩ := h2.at_ hlt
        obtain ⟨bl, o, b1, o1, c1, rfl, q0, q1, q2, q3, _⟩ := RdSS.two hv hlt hpq
        have hdk : d[k] = [p, q] := by rw [← rowOf_get hlt]; exact hpq
        have HI := Lib.hid (show isE a b d[k] = (decide (p = a) && decide (q = b)) by rw [hdk]; rfl)
        clear hdk hpq
        by_cases hp : p = a
        · by_cases hq : q = b
          · have f2 : (p == a) = true := beq_iff_eq.2 hp
            have f3 : (q == b) = true := beq_iff_eq.2 hq
            have HA := Lib.hid (any_hit hlt (show isE a b d[k] = true by rw [HI.out, decide_eq_true hp, decide_eq_true hq]; rfl))
            clear hp hq
            go_wp2_with fail
            go_ret
            exact ⟨ret_bool (by rw [HE.out, HA.out]), rfl⟩
          · have f2 : (p == a) = true := beq_iff_eq.2 hp
            have f3 : (q == b) = false := beq_eq_false_iff_ne.2 hq
            have HA := Lib.hid (show (d.take (k + 1)).any (isE a b) = false by rw [any_step hlt, HN.out, HI.out, decide_eq_true hp, decide_eq_false hq]; rfl)
            clear hp hq
            go_wp2_with fail
            go_round
            case rel => exact ⟨k + 1, by omega, by go_num, HA.out⟩
            case measure => simp [intOf]; omega
        · have f2 : (p == a) = false := beq_eq_false_iff_ne.2 hp
          have HA := Lib.hid (show (d.take (k + 1)).any (isE a b) = false by rw [any_step hlt, HN.out, HI.out, decide_eq_false hp]; rfl)
          clear hp
          go_wp2_with fail
          go_round
          case rel => exact ⟨k + 1, by omega, by go_num, HA.out⟩
          case measure => simp [intOf]; omega
      · have hlti : ¬ (k : Int) < (d.length : Int) := by omega
        obtain rfl : k = d.length := by omega
        have HA := Lib.hid (show d.any (isE a b) = false by have := HN.out; rwa [List.take_length] at this)
        clear HN
        go_wp2_with fail
        go_ret
        exact ⟨ret_bool (by rw [HE.out, HA.out]), rfl⟩
set_option maxHeartbeats 1000000 in
theorem l7Side_any (n a b : Int) (v : Value) (d : List (List Int)) (w : World) (hv : RdSS w v d) (h2 : Two d) (hn : 0 ≤ n ∧ n ≤ 10) (ha : 0 ≤ a ∧ a ≤ 10) (_hb2 : 0 ≤ b ∧ b ≤ 10) :
    Calls Try.prog 172 #[.int .i64 n, v, .int .i64 a, .int .i64 b] w fun e w' => e = .returned (.bool (sdB n d a b)) ∧ ∃ q, w' = w.drewN q := by
  have ew : IntKind.i64.wrap (a + 1) = a + 1 := IntWalk.i64_in _ (by omega)
  have ew2 : IntKind.i64.wrap (n - 1) = n - 1 := IntWalk.i64_in _ (by omega)
  by_cases h1 : b = a + 1 ∨ (a = 0 ∧ b = n - 1)
  · have HE := Lib.hid (show sdB n d a b = true by
      unfold sdB
      rcases h1 with h | ⟨h, h'⟩
      · rw [decide_eq_true h]; rfl
      · rw [decide_eq_true h, decide_eq_true h']; simp)
    by_cases hx : b = a + 1
    · have f1 : (b == a + 1) = true := beq_iff_eq.2 hx
      clear h1 hx
      go_enter Try.func172, Try.ntmps172
      go_wp2_with fail
      go_ret
      exact ⟨ret_bool HE.out.symm, 0, rfl⟩
    · obtain ⟨ha0, hbn⟩ := h1.resolve_left hx
      have f1 : (b == a + 1) = false := beq_eq_false_iff_ne.2 hx
      have f2 : (a == 0) = true := beq_iff_eq.2 ha0
      have f3 : (b == n - 1) = true := beq_iff_eq.2 hbn
      clear h1 hx ha0 hbn
      go_enter Try.func172, Try.ntmps172
      go_wp2_with fail
      go_ret
      exact ⟨ret_bool HE.out.symm, 0, rfl⟩
  · have f1 : (b == a + 1) = false := beq_eq_false_iff_ne.2 (fun e => h1 (.inl e))
    have HE := Lib.hid (show sdB n d a b = d.any (isE a b) by
      unfold sdB
      rw [decide_eq_false (fun e => h1 (.inl e))]
      by_cases q : a = 0
      · rw [decide_eq_false (fun e => h1 (.inr ⟨q, e⟩)), Bool.and_false]; rfl
      · rw [decide_eq_false q]; rfl)
    have f23 : ((a == 0) && (b == n - 1)) = false := by
      rw [Bool.eq_false_iff]; intro e
      rw [Bool.and_eq_true, beq_iff_eq, beq_iff_eq] at e
      exact h1 (.inr e)
    have f4 : (a == 0) = true → (b == n - 1) = false := fun e => by
      rw [e, Bool.true_and] at f23; exact f23
    have F4 := Lib.hid f4
    clear h1 f4 f23
    obtain ⟨A, c, rfl, _, _, _⟩ := id hv
    have main : ∀ z, (a == 0) = z → Calls Try.prog 172 #[.int .i64 n, .slice A d.length c, .int .i64 a, .int .i64 b] w fun e w' => e = .returned (.bool (sdB n d a b)) ∧ ∃ q, w' = w.drewN q := by
      intro z hz
      have f3 : z = true → (b == n - 1) = false := fun e => F4.out (hz.trans e)
      rcases z with _ | _
      · clear f3
        go_enter Try.func172, Try.ntmps172
        go_wp2_with fail
        go_loopw [9] (fun i wr => ∃ k : Nat, k ≤ d.length ∧ i = .int .i64 (k : Int) ∧ Hid ((d.take k).any (isE a b) = false) ∧ ∃ q, wr = w.drewN q) (fun i _ => d.length - (intOf i).toNat)
        case atStart => exact ⟨0, by omega, rfl, rfl, 0, rfl⟩
        case round =>
          obtain ⟨k, hk, rfl, HN, q8, rfl⟩ := hrel
          by_cases hlt : k < d.length
          · have hlti : (k : Int) < (d.length : Int) := by omega
            obtain ⟨p, q, hpq⟩ := h2.at_ hlt
            obtain ⟨bl, o, b1, o1, c1, rfl, q0, q1, q2, q3, _⟩ := RdSS.two hv hlt hpq
            have hdk : d[k] = [p, q] := by rw [← rowOf_get hlt]; exact hpq
            have HI := Lib.hid (show isE a b d[k] = (decide (p = a) && decide (q = b)) by rw [hdk]; rfl)
            clear hdk hpq
            by_cases hp : p = a
            · by_cases hq : q = b
              · have g2 : (p == a) = true := beq_iff_eq.2 hp
                have g3 : (q == b) = true := beq_iff_eq.2 hq
                have HA := Lib.hid (any_hit hlt (show isE a b d[k] = true by rw [HI.out, decide_eq_true hp, decide_eq_true hq]; rfl))
                clear hp hq
                go_wp2_with fail
                go_ret
                exact ⟨ret_bool (by rw [HE.out, HA.out]), _, rfl⟩
              · have g2 : (p == a) = true := beq_iff_eq.2 hp
                have g3 : (q == b) = false := beq_eq_false_iff_ne.2 hq
                have HA := Lib.hid (show (d.take (k + 1)).any (isE a b) = false by rw [any_step hlt, HN.out, HI.out, decide_eq_true hp, decide_eq_false hq]; rfl)
                clear hp hq
                go_wp2_with fail
                go_roundw
                case rel => exact ⟨k + 1, by omega, by go_num, HA.out, _, rfl⟩
                case measure => simp [intOf]; omega
            · have g2 : (p == a) = false := beq_eq_false_iff_ne.2 hp
              have HA := Lib.hid (show (d.take (k + 1)).any (isE a b) = false by rw [any_step hlt, HN.out, HI.out, decide_eq_false hp]; rfl)
              clear hp
              go_wp2_with fail
              go_roundw
              case rel => exact ⟨k + 1, by omega, by go_num, HA.out, _, rfl⟩
              case measure => simp [intOf]; omega
          · have hlti : ¬ (k : Int) < (d.length : Int) := by omega
            obtain rfl : k = d.length := by omega
            have HA := Lib.hid (show d.any (isE a b) = false by have := HN.out; rwa [List.take_length] at this)
            clear HN
            go_wp2_with fail
            go_ret
            exact ⟨ret_bool (by rw [HE.out, HA.out]), _, rfl⟩
      · have f3 := f3 rfl
        go_enter Try.func172, Try.ntmps172
        go_wp2_with fail
        go_loopw [9] (fun i wr => ∃ k : Nat, k ≤ d.length ∧ i = .int .i64 (k : Int) ∧ Hid ((d.take k).any (isE a b) = false) ∧ ∃ q, wr = w.drewN q) (fun i _ => d.length - (intOf i).toNat)
        case atStart => exact ⟨0, by omega, rfl, rfl, 0, rfl⟩
        case round =>
          obtain ⟨k, hk, rfl, HN, q8, rfl⟩ := hrel
          by_cases hlt : k < d.length
          · have hlti : (k : Int) < (d.length : Int) := by omega
            obtain ⟨p, q, hpq⟩ := h2.at_ hlt
            obtain ⟨bl, o, b1, o1, c1, rfl, q0, q1, q2, q3, _⟩ := RdSS.two hv hlt hpq
            have hdk : d[k] = [p, q] := by rw [← rowOf_get hlt]; exact hpq
            have HI := Lib.hid (show isE a b d[k] = (decide (p = a) && decide (q = b)) by rw [hdk]; rfl)
            clear hdk hpq
            by_cases hp : p = a
            · by_cases hq : q = b
              · have g2 : (p == a) = true := beq_iff_eq.2 hp
                have g3 : (q == b) = true := beq_iff_eq.2 hq
                have HA := Lib.hid (any_hit hlt (show isE a b d[k] = true by rw [HI.out, decide_eq_true hp, decide_eq_true hq]; rfl))
                clear hp hq
                go_wp2_with fail
                go_ret
                exact ⟨ret_bool (by rw [HE.out, HA.out]), _, rfl⟩
              · have g2 : (p == a) = true := beq_iff_eq.2 hp
                have g3 : (q == b) = false := beq_eq_false_iff_ne.2 hq
                have HA := Lib.hid (show (d.take (k + 1)).any (isE a b) = false by rw [any_step hlt, HN.out, HI.out, decide_eq_true hp, decide_eq_false hq]; rfl)
                clear hp hq
                go_wp2_with fail
                go_roundw
                case rel => exact ⟨k + 1, by omega, by go_num, HA.out, _, rfl⟩
                case measure => simp [intOf]; omega
            · have g2 : (p == a) = false := beq_eq_false_iff_ne.2 hp
              have HA := Lib.hid (show (d.take (k + 1)).any (isE a b) = false by rw [any_step hlt, HN.out, HI.out, decide_eq_false hp]; rfl)
              clear hp
              go_wp2_with fail
              go_roundw
              case rel => exact ⟨k + 1, by omega, by go_num, HA.out, _, rfl⟩
              case measure => simp [intOf]; omega
          · have hlti : ¬ (k : Int) < (d.length : Int) := by omega
            obtain rfl : k = d.length := by omega
            have HA := Lib.hid (show d.any (isE a b) = false by have := HN.out; rwa [List.take_length] at this)
            clear HN
            go_wp2_with fail
            go_ret
            exact ⟨ret_bool (by rw [HE.out, HA.out]), _, rfl⟩
    exact main _ rfl
end Go.Proofs.Ytnkkgfeegaiakaa
