/- Contracts of the words that triangulations are made of: isDiagonal, l7Before, l7Crosses. Conditions: the sizes of the polygon and of the rows. -/
import Derived.Test.YtnkkgfeegaiakaaCmp
import Derived.Test.YtnkkgfeegaiakaaGround
import Derived.Test.YtnkkgfeegaiakaaGround2
namespace Go.Proofs.Ytnkkgfeegaiakaa
open Go.RowKit
/-- a diagonal of a polygon with n corners -/
def diagB (n : Int) (x : List Int) : Bool := decide (x.length = 2) && (decide (0 ≤ x.getD 0 0 ∧ x.getD 0 0 ≤ n - 1) && (decide (0 ≤ x.getD 1 0 ∧ x.getD 1 0 ≤ n - 1) && (decide (2 ≤ x.getD 1 0 - x.getD 0 0) && !(decide (x.getD 0 0 = 0) && decide (x.getD 1 0 = n - 1)))))
def crN (a b c d : Int) : Bool := (decide (a < c) && (decide (c < b) && decide (b < d))) || (decide (c < a) && (decide (a < d) && decide (d < b)))
/-- whether two diagonals have different ends and cross -/
def crB (x y : List Int) : Bool := crN (x.getD 0 0) (x.getD 1 0) (y.getD 0 0) (y.getD 1 0)
theorem two_of {x : List Int} (h : x.length = 2) : ∃ a b, x = [a, b] := by
  match x, h with
  | [a, b], _ => exact ⟨a, b, rfl⟩
theorem RdI.two {w : World} {v : Value} {a b : Int} (h : RdI w v [a, b]) : ∃ bl o c, v = .slice (some ⟨bl, o, none⟩) 2 c ∧ 2 ≤ c ∧ w.cell? ⟨bl, o, none⟩ = some (.int .i64 a) ∧ w.cell? ⟨bl, o + 1, none⟩ = some (.int .i64 b) := by
  obtain ⟨A, c, rfl, hc, _, hA⟩ := h
  obtain ⟨bl, o, rfl, _, hcl⟩ := hA (by simp)
  exact ⟨bl, o, c, rfl, by simpa using hc, by simpa using hcl 0 (by simp), by simpa using hcl 1 (by simp)⟩
theorem ltL_two (a b c d : Int) : decide (cmpL [a, b] [c, d] < 0) = (decide (a < c) || (decide (a = c) && decide (b < d))) := by
  rw [cmpL_cons]
  by_cases h : a = c
  · subst h
    rw [if_pos rfl, cmpL_cons]
    by_cases h2 : b = d
    · subst h2; simp [cmpL]
    · rw [if_neg h2]
      unfold cmpV
      by_cases h3 : b < d
      · simp [h3]
      · rw [if_neg h3, if_pos (by omega)]; simp [h3]
  · rw [if_neg h]
    unfold cmpV
    by_cases h3 : a < c
    · simp [h3]
    · rw [if_neg h3, if_pos (by omega)]; simp [h3, h]
set_option maxHeartbeats 1000000 in
theorem isDiagonal_1 (n a b : Int) (v : Value) (w : World) (hn : 2 ≤ n ∧ n ≤ 10) (hv : RdI w v [a, b]) (ha : ¬ (0 ≤ a ∧ a ≤ n - 1)) :
    Calls Try.prog 223 #[.int .i64 n, v] w fun e w' => e = .returned (.bool false) ∧ ∃ q, w' = w.drewN q := by
  obtain ⟨bl, o, c, rfl, hc, c0, c1⟩ := hv.two
  have en : IntKind.i64.wrap (n - 1) = n - 1 := IntWalk.i64_in _ (by omega)
  clear hv
  go_enter Try.func223, Try.ntmps223
  go_wp2_with fail
  go_quiet (first | (go_at_call 178; exact quiet_left (within_yes _ _ _ _ (by omega) (by omega))) | (go_at_call 178; exact quiet_left (within_no _ _ _ _ (by omega))))
  go_wp2_with fail
  go_ret
  exact ⟨rfl, _, rfl⟩
set_option maxHeartbeats 1000000 in
theorem isDiagonal_2 (n a b : Int) (v : Value) (w : World) (hn : 2 ≤ n ∧ n ≤ 10) (hv : RdI w v [a, b]) (ha : 0 ≤ a ∧ a ≤ n - 1) (hb : ¬ (0 ≤ b ∧ b ≤ n - 1)) :
    Calls Try.prog 223 #[.int .i64 n, v] w fun e w' => e = .returned (.bool false) ∧ ∃ q, w' = w.drewN q := by
  obtain ⟨bl, o, c, rfl, hc, c0, c1⟩ := hv.two
  have en : IntKind.i64.wrap (n - 1) = n - 1 := IntWalk.i64_in _ (by omega)
  clear hv
  go_enter Try.func223, Try.ntmps223
  go_wp2_with fail
  go_quiet (first | (go_at_call 178; exact quiet_left (within_yes _ _ _ _ (by omega) (by omega))) | (go_at_call 178; exact quiet_left (within_no _ _ _ _ (by omega))))
  go_wp2_with fail
  go_ret
  exact ⟨rfl, _, rfl⟩
set_option maxHeartbeats 1000000 in
theorem isDiagonal_3 (n a b : Int) (v : Value) (w : World) (hn : 2 ≤ n ∧ n ≤ 10) (hv : RdI w v [a, b]) (ha : 0 ≤ a ∧ a ≤ n - 1) (hb : 0 ≤ b ∧ b ≤ n - 1) (hd : ¬ 2 ≤ b - a) :
    Calls Try.prog 223 #[.int .i64 n, v] w fun e w' => e = .returned (.bool false) ∧ ∃ q, w' = w.drewN q := by
  obtain ⟨bl, o, c, rfl, hc, c0, c1⟩ := hv.two
  have en : IntKind.i64.wrap (n - 1) = n - 1 := IntWalk.i64_in _ (by omega)
  have eb : IntKind.i64.wrap (b - a) = b - a := IntWalk.i64_in _ (by omega)
  have d1 : decide (2 ≤ b - a) = false := decide_eq_false (by omega)
  clear hv
  go_enter Try.func223, Try.ntmps223
  go_wp2_with fail
  go_quiet (first | (go_at_call 178; exact quiet_left (within_yes _ _ _ _ (by omega) (by omega))) | (go_at_call 178; exact quiet_left (within_no _ _ _ _ (by omega))))
  go_wp2_with fail
  go_ret
  exact ⟨rfl, _, rfl⟩
set_option maxHeartbeats 1000000 in
theorem isDiagonal_4 (n a b : Int) (v : Value) (w : World) (hn : 2 ≤ n ∧ n ≤ 10) (hv : RdI w v [a, b]) (ha : 0 ≤ a ∧ a ≤ n - 1) (hb : 0 ≤ b ∧ b ≤ n - 1) (hd : 2 ≤ b - a) (h0 : ¬ a = 0) :
    Calls Try.prog 223 #[.int .i64 n, v] w fun e w' => e = .returned (.bool true) ∧ ∃ q, w' = w.drewN q := by
  obtain ⟨bl, o, c, rfl, hc, c0, c1⟩ := hv.two
  have en : IntKind.i64.wrap (n - 1) = n - 1 := IntWalk.i64_in _ (by omega)
  have eb : IntKind.i64.wrap (b - a) = b - a := IntWalk.i64_in _ (by omega)
  have d1 : decide (2 ≤ b - a) = true := decide_eq_true (by omega)
  have d2 : (a != 0) = true := bne_iff_ne.2 h0
  clear hv
  go_enter Try.func223, Try.ntmps223
  go_wp2_with fail
  go_quiet (first | (go_at_call 178; exact quiet_left (within_yes _ _ _ _ (by omega) (by omega))) | (go_at_call 178; exact quiet_left (within_no _ _ _ _ (by omega))))
  go_wp2_with fail
  go_ret
  exact ⟨rfl, _, rfl⟩
set_option maxHeartbeats 1000000 in
theorem isDiagonal_5 (n a b : Int) (v : Value) (w : World) (hn : 2 ≤ n ∧ n ≤ 10) (hv : RdI w v [a, b]) (ha : 0 ≤ a ∧ a ≤ n - 1) (hb : 0 ≤ b ∧ b ≤ n - 1) (hd : 2 ≤ b - a) (h0 : a = 0) (h1 : ¬ b = n - 1) :
    Calls Try.prog 223 #[.int .i64 n, v] w fun e w' => e = .returned (.bool true) ∧ ∃ q, w' = w.drewN q := by
  obtain ⟨bl, o, c, rfl, hc, c0, c1⟩ := hv.two
  have en : IntKind.i64.wrap (n - 1) = n - 1 := IntWalk.i64_in _ (by omega)
  have eb : IntKind.i64.wrap (b - a) = b - a := IntWalk.i64_in _ (by omega)
  have d1 : decide (2 ≤ b - a) = true := decide_eq_true (by omega)
  have d2 : (a != 0) = false := by simp [h0]
  have d3 : (b != n - 1) = true := bne_iff_ne.2 h1
  clear h0 h1
  clear hv
  go_enter Try.func223, Try.ntmps223
  go_wp2_with fail
  go_quiet (first | (go_at_call 178; exact quiet_left (within_yes _ _ _ _ (by omega) (by omega))) | (go_at_call 178; exact quiet_left (within_no _ _ _ _ (by omega))))
  go_wp2_with fail
  go_ret
  exact ⟨rfl, _, rfl⟩
set_option maxHeartbeats 1000000 in
theorem isDiagonal_6 (n a b : Int) (v : Value) (w : World) (hn : 2 ≤ n ∧ n ≤ 10) (hv : RdI w v [a, b]) (ha : 0 ≤ a ∧ a ≤ n - 1) (hb : 0 ≤ b ∧ b ≤ n - 1) (hd : 2 ≤ b - a) (h0 : a = 0) (h1 : b = n - 1) :
    Calls Try.prog 223 #[.int .i64 n, v] w fun e w' => e = .returned (.bool false) ∧ ∃ q, w' = w.drewN q := by
  obtain ⟨bl, o, c, rfl, hc, c0, c1⟩ := hv.two
  have en : IntKind.i64.wrap (n - 1) = n - 1 := IntWalk.i64_in _ (by omega)
  have eb : IntKind.i64.wrap (b - a) = b - a := IntWalk.i64_in _ (by omega)
  have d1 : decide (2 ≤ b - a) = true := decide_eq_true (by omega)
  have d2 : (a != 0) = false := by simp [h0]
  have d3 : (b != n - 1) = false := by simp [h1]
  clear h0 h1
  clear hv
  go_enter Try.func223, Try.ntmps223
  go_wp2_with fail
  go_quiet (first | (go_at_call 178; exact quiet_left (within_yes _ _ _ _ (by omega) (by omega))) | (go_at_call 178; exact quiet_left (within_no _ _ _ _ (by omega))))
  go_wp2_with fail
  go_ret
  exact ⟨rfl, _, rfl⟩
set_option maxHeartbeats 1000000 in
theorem isDiagonal_any (n : Int) (v : Value) (x : List Int) (w : World) (hn : 2 ≤ n ∧ n ≤ 10) (hv : RdI w v x) :
    Calls Try.prog 223 #[.int .i64 n, v] w fun e w' => e = .returned (.bool (diagB n x)) ∧ ∃ q, w' = w.drewN q := by
  by_cases h2 : x.length = 2
  · obtain ⟨a, b, rfl⟩ := two_of h2
    have e : diagB n [a, b] = (decide (0 ≤ a ∧ a ≤ n - 1) && (decide (0 ≤ b ∧ b ≤ n - 1) && (decide (2 ≤ b - a) && !(decide (a = 0) && decide (b = n - 1))))) := by
      unfold diagB; simp [List.getD]
    rw [e]
    by_cases ha : 0 ≤ a ∧ a ≤ n - 1
    · by_cases hb : 0 ≤ b ∧ b ≤ n - 1
      · by_cases hd : 2 ≤ b - a
        · by_cases h0 : a = 0
          · by_cases h1 : b = n - 1
            · have := isDiagonal_6 n a b v w hn hv ha hb hd h0 h1
              rwa [decide_eq_true ha, decide_eq_true hb, decide_eq_true hd, decide_eq_true h0, decide_eq_true h1]
            · have := isDiagonal_5 n a b v w hn hv ha hb hd h0 h1
              rwa [decide_eq_true ha, decide_eq_true hb, decide_eq_true hd, decide_eq_true h0, decide_eq_false h1]
          · have := isDiagonal_4 n a b v w hn hv ha hb hd h0
            rwa [decide_eq_true ha, decide_eq_true hb, decide_eq_true hd, decide_eq_false h0]
        · have := isDiagonal_3 n a b v w hn hv ha hb hd
          rwa [decide_eq_true ha, decide_eq_true hb, decide_eq_false hd]
      · have := isDiagonal_2 n a b v w hn hv ha hb
        rwa [decide_eq_true ha, decide_eq_false hb]
    · have := isDiagonal_1 n a b v w hn hv ha
      rwa [decide_eq_false ha]
  · have HV := Lib.hid (show diagB n x = false by unfold diagB; rw [decide_eq_false h2]; rfl)
    obtain ⟨A, c, rfl, _⟩ := id hv
    have f1 : ((x.length : Int) == 2) = false := beq_eq_false_iff_ne.2 (by omega)
    clear h2 hv
    go_enter Try.func223, Try.ntmps223
    go_wp2_with fail
    go_quiet (fail)
    go_wp2_with fail
    go_ret
    exact ⟨ret_bool HV.out.symm, _, rfl⟩
set_option maxHeartbeats 1000000 in
theorem l7Crosses_1 (a b c d : Int) (v u : Value) (w : World) (hv : RdI w v [a, b]) (hu : RdI w u [c, d]) (h1 : a < c) (h2 : c < b) (h3 : b < d) :
    Calls Try.prog 234 #[v, u] w fun e w' => e = .returned (.bool true) ∧ ∃ q, w' = w.drewN q := by
  obtain ⟨b1, o1, p1, rfl, hp1, c0, c1⟩ := hv.two
  obtain ⟨b2, o2, p2, rfl, hp2, c2, c3⟩ := hu.two
  have fac : decide (a < c) = true := decide_eq_true (by omega)
  have fcb : decide (c < b) = true := decide_eq_true (by omega)
  have fbd : decide (b < d) = true := decide_eq_true (by omega)
  clear hv hu
  go_enter Try.func234, Try.ntmps234
  go_wp2_with fail
  go_quiet (fail)
  go_wp2_with fail
  go_ret
  exact ⟨rfl, _, rfl⟩
set_option maxHeartbeats 1000000 in
theorem l7Crosses_2 (a b c d : Int) (v u : Value) (w : World) (hv : RdI w v [a, b]) (hu : RdI w u [c, d]) (h1 : a < c) (h2 : c < b) (h3 : ¬ b < d) :
    Calls Try.prog 234 #[v, u] w fun e w' => e = .returned (.bool false) ∧ ∃ q, w' = w.drewN q := by
  obtain ⟨b1, o1, p1, rfl, hp1, c0, c1⟩ := hv.two
  obtain ⟨b2, o2, p2, rfl, hp2, c2, c3⟩ := hu.two
  have fac : decide (a < c) = true := decide_eq_true (by omega)
  have fcb : decide (c < b) = true := decide_eq_true (by omega)
  have fbd : decide (b < d) = false := decide_eq_false (by omega)
  have fca : decide (c < a) = false := decide_eq_false (by omega)
  clear hv hu
  go_enter Try.func234, Try.ntmps234
  go_wp2_with fail
  go_quiet (fail)
  go_wp2_with fail
  go_ret
  exact ⟨rfl, _, rfl⟩
set_option maxHeartbeats 1000000 in
theorem l7Crosses_3 (a b c d : Int) (v u : Value) (w : World) (hv : RdI w v [a, b]) (hu : RdI w u [c, d]) (h1 : a < c) (h2 : ¬ c < b) :
    Calls Try.prog 234 #[v, u] w fun e w' => e = .returned (.bool false) ∧ ∃ q, w' = w.drewN q := by
  obtain ⟨b1, o1, p1, rfl, hp1, c0, c1⟩ := hv.two
  obtain ⟨b2, o2, p2, rfl, hp2, c2, c3⟩ := hu.two
  have fac : decide (a < c) = true := decide_eq_true (by omega)
  have fcb : decide (c < b) = false := decide_eq_false (by omega)
  have fca : decide (c < a) = false := decide_eq_false (by omega)
  clear hv hu
  go_enter Try.func234, Try.ntmps234
  go_wp2_with fail
  go_quiet (fail)
  go_wp2_with fail
  go_ret
  exact ⟨rfl, _, rfl⟩
set_option maxHeartbeats 1000000 in
theorem l7Crosses_4 (a b c d : Int) (v u : Value) (w : World) (hv : RdI w v [a, b]) (hu : RdI w u [c, d]) (h1 : c < a) (h2 : a < d) (h3 : d < b) :
    Calls Try.prog 234 #[v, u] w fun e w' => e = .returned (.bool true) ∧ ∃ q, w' = w.drewN q := by
  obtain ⟨b1, o1, p1, rfl, hp1, c0, c1⟩ := hv.two
  obtain ⟨b2, o2, p2, rfl, hp2, c2, c3⟩ := hu.two
  have fac : decide (a < c) = false := decide_eq_false (by omega)
  have fca : decide (c < a) = true := decide_eq_true (by omega)
  have fad : decide (a < d) = true := decide_eq_true (by omega)
  have fdb : decide (d < b) = true := decide_eq_true (by omega)
  clear hv hu
  go_enter Try.func234, Try.ntmps234
  go_wp2_with fail
  go_quiet (fail)
  go_wp2_with fail
  go_ret
  exact ⟨rfl, _, rfl⟩
set_option maxHeartbeats 1000000 in
theorem l7Crosses_5 (a b c d : Int) (v u : Value) (w : World) (hv : RdI w v [a, b]) (hu : RdI w u [c, d]) (h1 : c < a) (h2 : a < d) (h3 : ¬ d < b) :
    Calls Try.prog 234 #[v, u] w fun e w' => e = .returned (.bool false) ∧ ∃ q, w' = w.drewN q := by
  obtain ⟨b1, o1, p1, rfl, hp1, c0, c1⟩ := hv.two
  obtain ⟨b2, o2, p2, rfl, hp2, c2, c3⟩ := hu.two
  have fac : decide (a < c) = false := decide_eq_false (by omega)
  have fca : decide (c < a) = true := decide_eq_true (by omega)
  have fad : decide (a < d) = true := decide_eq_true (by omega)
  have fdb : decide (d < b) = false := decide_eq_false (by omega)
  clear hv hu
  go_enter Try.func234, Try.ntmps234
  go_wp2_with fail
  go_quiet (fail)
  go_wp2_with fail
  go_ret
  exact ⟨rfl, _, rfl⟩
set_option maxHeartbeats 1000000 in
theorem l7Crosses_6 (a b c d : Int) (v u : Value) (w : World) (hv : RdI w v [a, b]) (hu : RdI w u [c, d]) (h1 : c < a) (h2 : ¬ a < d) :
    Calls Try.prog 234 #[v, u] w fun e w' => e = .returned (.bool false) ∧ ∃ q, w' = w.drewN q := by
  obtain ⟨b1, o1, p1, rfl, hp1, c0, c1⟩ := hv.two
  obtain ⟨b2, o2, p2, rfl, hp2, c2, c3⟩ := hu.two
  have fac : decide (a < c) = false := decide_eq_false (by omega)
  have fca : decide (c < a) = true := decide_eq_true (by omega)
  have fad : decide (a < d) = false := decide_eq_false (by omega)
  clear hv hu
  go_enter Try.func234, Try.ntmps234
  go_wp2_with fail
  go_quiet (fail)
  go_wp2_with fail
  go_ret
  exact ⟨rfl, _, rfl⟩
set_option maxHeartbeats 1000000 in
theorem l7Crosses_7 (a b c d : Int) (v u : Value) (w : World) (hv : RdI w v [a, b]) (hu : RdI w u [c, d]) (h1 : ¬ a < c) (h2 : ¬ c < a) :
    Calls Try.prog 234 #[v, u] w fun e w' => e = .returned (.bool false) ∧ ∃ q, w' = w.drewN q := by
  obtain ⟨b1, o1, p1, rfl, hp1, c0, c1⟩ := hv.two
  obtain ⟨b2, o2, p2, rfl, hp2, c2, c3⟩ := hu.two
  have fac : decide (a < c) = false := decide_eq_false (by omega)
  have fca : decide (c < a) = false := decide_eq_false (by omega)
  clear hv hu
  go_enter Try.func234, Try.ntmps234
  go_wp2_with fail
  go_quiet (fail)
  go_wp2_with fail
  go_ret
  exact ⟨rfl, _, rfl⟩
theorem l7Crosses_any (a b c d : Int) (v u : Value) (w : World) (hv : RdI w v [a, b]) (hu : RdI w u [c, d]) :
    Calls Try.prog 234 #[v, u] w fun e w' => e = .returned (.bool (crN a b c d)) ∧ ∃ q, w' = w.drewN q := by
  by_cases h1 : a < c
  · by_cases h2 : c < b
    · by_cases h3 : b < d
      · have := l7Crosses_1 a b c d v u w hv hu h1 h2 h3
        rwa [show crN a b c d = true by simp [crN, h1, h2, h3]]
      · have := l7Crosses_2 a b c d v u w hv hu h1 h2 h3
        rwa [show crN a b c d = false by simp [crN, h1, h2, h3, show ¬ c < a by omega]]
    · have := l7Crosses_3 a b c d v u w hv hu h1 h2
      rwa [show crN a b c d = false by simp [crN, h1, h2, show ¬ c < a by omega]]
  · by_cases h4 : c < a
    · by_cases h2 : a < d
      · by_cases h3 : d < b
        · have := l7Crosses_4 a b c d v u w hv hu h4 h2 h3
          rwa [show crN a b c d = true by simp [crN, h4, h2, h3]]
        · have := l7Crosses_5 a b c d v u w hv hu h4 h2 h3
          rwa [show crN a b c d = false by simp [crN, h1, h4, h2, h3]]
      · have := l7Crosses_6 a b c d v u w hv hu h4 h2
        rwa [show crN a b c d = false by simp [crN, h1, h4, h2]]
    · have := l7Crosses_7 a b c d v u w hv hu h1 h4
      rwa [show crN a b c d = false by simp [crN, h1, h4]]
set_option maxHeartbeats 1000000 in
theorem l7Before_1 (a b c d : Int) (v u : Value) (w : World) (hv : RdI w v [a, b]) (hu : RdI w u [c, d]) (h1 : a < c) :
    Calls Try.prog 233 #[v, u] w fun e w' => e = .returned (.bool true) ∧ ∃ q, w' = w.drewN q := by
  obtain ⟨b1, o1, p1, rfl, hp1, c0, c1⟩ := hv.two
  obtain ⟨b2, o2, p2, rfl, hp2, c2, c3⟩ := hu.two
  have fac : decide (a < c) = true := decide_eq_true (by omega)
  clear hv hu
  go_enter Try.func233, Try.ntmps233
  go_wp2_with fail
  go_quiet (fail)
  go_wp2_with fail
  go_ret
  exact ⟨rfl, _, rfl⟩
set_option maxHeartbeats 1000000 in
theorem l7Before_2 (a b c d : Int) (v u : Value) (w : World) (hv : RdI w v [a, b]) (hu : RdI w u [c, d]) (h1 : ¬ a < c) (h2 : ¬ a = c) :
    Calls Try.prog 233 #[v, u] w fun e w' => e = .returned (.bool false) ∧ ∃ q, w' = w.drewN q := by
  obtain ⟨b1, o1, p1, rfl, hp1, c0, c1⟩ := hv.two
  obtain ⟨b2, o2, p2, rfl, hp2, c2, c3⟩ := hu.two
  have fac : decide (a < c) = false := decide_eq_false (by omega)
  have gac : (a == c) = false := beq_eq_false_iff_ne.2 (by omega)
  clear hv hu
  go_enter Try.func233, Try.ntmps233
  go_wp2_with fail
  go_quiet (fail)
  go_wp2_with fail
  go_ret
  exact ⟨rfl, _, rfl⟩
set_option maxHeartbeats 1000000 in
theorem l7Before_3 (a b c d : Int) (v u : Value) (w : World) (hv : RdI w v [a, b]) (hu : RdI w u [c, d]) (h2 : a = c) (h3 : b < d) :
    Calls Try.prog 233 #[v, u] w fun e w' => e = .returned (.bool true) ∧ ∃ q, w' = w.drewN q := by
  obtain ⟨b1, o1, p1, rfl, hp1, c0, c1⟩ := hv.two
  obtain ⟨b2, o2, p2, rfl, hp2, c2, c3⟩ := hu.two
  have fac : decide (a < c) = false := decide_eq_false (by omega)
  have gac : (a == c) = true := beq_iff_eq.2 (by omega)
  have fbd : decide (b < d) = true := decide_eq_true (by omega)
  clear hv hu
  go_enter Try.func233, Try.ntmps233
  go_wp2_with fail
  go_quiet (fail)
  go_wp2_with fail
  go_ret
  exact ⟨rfl, _, rfl⟩
set_option maxHeartbeats 1000000 in
theorem l7Before_4 (a b c d : Int) (v u : Value) (w : World) (hv : RdI w v [a, b]) (hu : RdI w u [c, d]) (h2 : a = c) (h3 : ¬ b < d) :
    Calls Try.prog 233 #[v, u] w fun e w' => e = .returned (.bool false) ∧ ∃ q, w' = w.drewN q := by
  obtain ⟨b1, o1, p1, rfl, hp1, c0, c1⟩ := hv.two
  obtain ⟨b2, o2, p2, rfl, hp2, c2, c3⟩ := hu.two
  have fac : decide (a < c) = false := decide_eq_false (by omega)
  have gac : (a == c) = true := beq_iff_eq.2 (by omega)
  have fbd : decide (b < d) = false := decide_eq_false (by omega)
  clear hv hu
  go_enter Try.func233, Try.ntmps233
  go_wp2_with fail
  go_quiet (fail)
  go_wp2_with fail
  go_ret
  exact ⟨rfl, _, rfl⟩
theorem l7Before_any (a b c d : Int) (v u : Value) (w : World) (hv : RdI w v [a, b]) (hu : RdI w u [c, d]) :
    Calls Try.prog 233 #[v, u] w fun e w' => e = .returned (.bool (decide (cmpL [a, b] [c, d] < 0))) ∧ ∃ q, w' = w.drewN q := by
  rw [ltL_two]
  by_cases h1 : a < c
  · have := l7Before_1 a b c d v u w hv hu h1
    rwa [decide_eq_true h1]
  · by_cases h2 : a = c
    · by_cases h3 : b < d
      · have := l7Before_3 a b c d v u w hv hu h2 h3
        rwa [decide_eq_false h1, decide_eq_true h2, decide_eq_true h3]
      · have := l7Before_4 a b c d v u w hv hu h2 h3
        rwa [decide_eq_false h1, decide_eq_true h2, decide_eq_false h3]
    · have := l7Before_2 a b c d v u w hv hu h1 h2
      rwa [decide_eq_false h1, decide_eq_false h2]
end Go.Proofs.Ytnkkgfeegaiakaa
