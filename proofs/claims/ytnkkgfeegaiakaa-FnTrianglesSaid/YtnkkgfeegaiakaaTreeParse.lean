/- Contract of the program's parseTree: the tree of a text, where it is one. Condition: a text's size. -/
import Derived.Test.YtnkkgfeegaiakaaTreeRead
namespace Go.Proofs.Ytnkkgfeegaiakaa
open Go.RowKit
/-- the tree that a text is -/
def ptR (l : List UInt8) : Option Tr := if l.length ≤ 25 then (match rdAt l.length l 0 with
  | some (T, j) => if j = l.length then some T else none
  | none => none) else none
theorem ptR_text {l : List UInt8} {T : Tr} : ptR l = some T ↔ l = txT T ∧ T.size ≤ 8 := by
  unfold ptR
  constructor
  · intro h
    by_cases h1 : l.length ≤ 25
    · rw [if_pos h1] at h
      rcases e : rdAt l.length l 0 with _ | ⟨a, j⟩
      · rw [e] at h; cases h
      · rw [e] at h
        dsimp only at h
        by_cases h2 : j = l.length
        · rw [if_pos h2] at h
          have hT : a = T := Option.some.inj h
          subst hT
          unfold rdAt at e
          rcases e2 : rdT l.length (l.drop 0) with _ | ⟨b, r⟩
          · rw [e2] at e; cases e
          · rw [e2] at e
            have e3 := Option.some.inj e
            have e4 : b = a := congrArg Prod.fst e3
            have e5 : l.length - r.length = j := congrArg Prod.snd e3
            subst e4
            have h3 := rdT_back _ _ _ _ e2
            have h4 := congrArg List.length h3
            simp only [List.drop_zero, List.length_append] at h3 h4
            have h5 := txT_len b
            have h6 : r.length = 0 := by
              omega
            rw [List.length_eq_zero_iff.1 h6, List.append_nil] at h3
            exact ⟨h3, by omega⟩
        · rw [if_neg h2] at h; cases h
    · rw [if_neg h1] at h; cases h
  · rintro ⟨rfl, h2⟩
    have h5 := txT_len T
    rw [if_pos (by omega)]
    have := rdT_text T (txT T).length [] (Nat.le_refl _)
    rw [List.append_nil] at this
    have e : rdAt (txT T).length (txT T) 0 = some (T, (txT T).length) := by
      unfold rdAt
      rw [List.drop_zero, this]; rfl
    rw [e]
    simp
def RetPT (w : World) (o : Option Tr) (e : Ending) (w' : World) : Prop := ∃ p, e = .returned (.tuple #[.pointer p, .bool o.isSome]) ∧ TreeAt w' (.pointer p) (o.getD .lf) ∧ Below w.heap.size w w'
theorem RetPT.mkNo {w w' : World} {o : Option Tr} (h : o = none) (hb : Below w.heap.size w w') : RetPT w o (.returned (.tuple #[.pointer none, .bool false])) w' := by
  rw [h]; exact ⟨_, rfl, rfl, hb⟩
theorem RetPT.mkYes {w w' : World} {o : Option Tr} {a : Tr} {p : Option Addr} (h : o = some a) (ht : TreeAt w' (.pointer p) a) (hb : Below w.heap.size w w') : RetPT w o (.returned (.tuple #[.pointer p, .bool true])) w' := by
  rw [h]; exact ⟨_, rfl, ht, hb⟩
set_option maxRecDepth 8000 in
set_option maxHeartbeats 2000000 in
theorem parseTree_any (s : ByteArray) (w : World) (hs : s.size ≤ 1099511627776) :
    Calls Try.prog 162 #[.string s] w (RetPT w (ptR (L s))) := by
  by_cases h25 : s.size ≤ 25
  · have HC := Lib.hid (readTree_any s (by omega) s.size 0 w (by omega) (by omega))
    have h25i : ¬ (25 : Int) < (s.size : Int) := by omega
    rcases ea : rdAt s.size (L s) 0 with _ | ⟨T, j⟩
    · rw [ea] at HC
      have HR := Lib.hid (show ptR (L s) = none by unfold ptR; rw [L_len, ea]; simp)
      have hne : ¬ (-1 : Int) = (s.size : Int) := by omega
      clear ea
      go_enter Try.func162, Try.ntmps162
      go_wp2_with fail
      refine HC.out.mono ?_; rintro e w1 h1
      obtain ⟨rfl, b1⟩ := h1.no
      go_wp2_with fail
      go_ret2
      exact RetPT.mkNo HR.out b1
    · obtain ⟨hj1, hj2, hj3⟩ := rdAt_le ea
      rw [L_len] at hj2
      have hl := txT_len T
      rw [ea] at HC
      by_cases hj : j = s.size
      · have HR := Lib.hid (show ptR (L s) = some T by unfold ptR; rw [L_len, ea]; simp only []; rw [if_pos h25, if_pos hj])
        have hT8 : T.size ≤ 8 := by omega
        have h8i : ¬ (8 : Int) < (T.size : Int) := by omega
        have hji : (j : Int) = (s.size : Int) := by omega
        clear ea hj3 hl
        go_enter Try.func162, Try.ntmps162
        go_wp2_with fail
        refine HC.out.mono ?_; rintro e w1 h1
        obtain ⟨p1, rfl, t1, b1⟩ := h1.yes
        have HN := Lib.hid (nodes_any T _ w1 t1 (by omega))
        go_wp2_with fail
        refine HN.out.mono ?_; rintro e w2 ⟨rfl, q2, rfl⟩
        go_wp2_with fail
        go_ret2
        exact RetPT.mkYes HR.out (t1.below (T := T) (below_draws _ q2)) (below_then b1 (below_draws _ q2))
      · have HR := Lib.hid (show ptR (L s) = none by unfold ptR; rw [L_len, ea]; simp only []; rw [if_pos h25, if_neg hj])
        have hji : ¬ (j : Int) = (s.size : Int) := by omega
        clear ea hj3 hl
        go_enter Try.func162, Try.ntmps162
        go_wp2_with fail
        refine HC.out.mono ?_; rintro e w1 h1
        obtain ⟨p1, rfl, t1, b1⟩ := h1.yes
        go_wp2_with fail
        go_ret2
        exact RetPT.mkNo HR.out b1
  · have h25i : (25 : Int) < (s.size : Int) := by omega
    have HR := Lib.hid (show ptR (L s) = none by unfold ptR; rw [if_neg (by rw [L_len]; exact h25)])
    go_enter Try.func162, Try.ntmps162
    go_wp2_with fail
    go_ret2
    exact RetPT.mkNo HR.out (Below.refl _ _)
end Go.Proofs.Ytnkkgfeegaiakaa
