/- Contract of the reference's l6End: the place behind a tree, or -1. Condition: a short text. -/
import Derived.Test.YtnkkgfeegaiakaaGround2
import Derived.Test.YtnkkgfeegaiakaaPlain34
namespace Go.Proofs.Ytnkkgfeegaiakaa
open Go.RowKit
def endOf (o : Option (Tr × Nat)) : Int := match o with
  | none => -1
  | some (_, j) => (j : Int)
set_option maxRecDepth 8000 in
set_option maxHeartbeats 2000000 in
theorem l6End_any (s : ByteArray) (hs : s.size ≤ 1000) : ∀ (f i : Nat) (w : World), s.size - i ≤ f → i ≤ s.size →
    Calls Try.prog 228 #[.string s, .int .i64 (i : Int)] w fun e w' => e = .returned (.int .i64 (endOf (rdAt f (L s) i))) ∧ w = w' := by
  intro f
  induction f with
  | zero =>
    intro i w hf hi
    have hge : ¬ (i : Int) < (s.size : Int) := by omega
    have HR := Lib.hid (show endOf (rdAt 0 (L s) i) = -1 by rw [rdAt_end (by rw [L_len]; omega)]; rfl)
    go_enter Try.func228, Try.ntmps228
    go_wp2_with fail
    go_ret
    exact ⟨by rw [HR.out]; rfl, rfl⟩
  | succ f ih =>
    intro i w hf hi
    have HIH := Lib.hid ih
    clear ih
    by_cases hlt : i < s.size
    · have hlL : i < (L s).length := by rw [L_len]; exact hlt
      have hg : (L s)[i] = s[i] := L_get s i hlt
      have hn : ∀ c : UInt8, (L s)[i] = c ↔ s[i].toNat = c.toNat := fun c => by rw [hg]; exact ⟨fun h => by rw [h], fun h => UInt8.toNat.inj h⟩
      by_cases h1 : s[i].toNat = 46
      · have f1 : (((s[i].toNat : Nat) : Int) == 46) = true := by simp; omega
        have HR := Lib.hid (show endOf (rdAt (f + 1) (L s) i) = (i : Int) + 1 by rw [rdAt_dot hlL ((hn 46).2 h1)]; simp [endOf])
        clear h1 hn hg
        go_enter Try.func228, Try.ntmps228
        go_wp2_with fail
        go_ret
        exact ⟨by rw [HR.out]; rfl, rfl⟩
      · have f1 : (((s[i].toNat : Nat) : Int) == 46) = false := by simp; omega
        by_cases h2 : s[i].toNat = 40
        · have f2 : (((s[i].toNat : Nat) : Int) == 40) = true := by simp; omega
          have HO := Lib.hid (rdAt_open (f := f) hlL ((hn 40).2 h2))
          have HC := Lib.hid (HIH.out (i + 1) w (by omega) (by omega))
          clear h1 h2 hn hg
          rcases ea : rdAt f (L s) (i + 1) with _ | ⟨a, x⟩
          · rw [ea] at HC HO
            have HR := Lib.hid (show endOf (rdAt (f + 1) (L s) i) = -1 by rw [HO.out]; rfl)
            clear ea HO
            simp only [endOf, Int.natCast_add, Int.cast_ofNat_Int] at HC
            go_enter Try.func228, Try.ntmps228
            go_wp2_with fail
            refine HC.out.mono ?_; rintro e w1 ⟨rfl, rfl⟩
            go_wp2_with fail
            go_ret
            exact ⟨by rw [HR.out]; rfl, rfl⟩
          · obtain ⟨hx1, hx2, -⟩ := rdAt_le ea
            rw [L_len] at hx2
            rw [ea] at HC HO
            dsimp only at HO
            have HD := Lib.hid (HIH.out x w (by omega) (by omega))
            clear ea
            simp only [endOf, Int.natCast_add, Int.cast_ofNat_Int] at HC
            have hxn : ¬ (x : Int) < 0 := by omega
            rcases eb : rdAt f (L s) x with _ | ⟨b, y⟩
            · rw [eb] at HD HO
              have HR := Lib.hid (show endOf (rdAt (f + 1) (L s) i) = -1 by rw [HO.out]; rfl)
              clear eb HO
              simp only [endOf] at HD
              go_enter Try.func228, Try.ntmps228
              go_wp2_with fail
              refine HC.out.mono ?_; rintro e w1 ⟨rfl, rfl⟩
              go_wp2_with fail
              refine HD.out.mono ?_; rintro e w1 ⟨rfl, rfl⟩
              go_wp2_with fail
              go_ret
              exact ⟨by rw [HR.out]; rfl, rfl⟩
            · obtain ⟨hy1, hy2, -⟩ := rdAt_le eb
              rw [L_len] at hy2
              rw [eb] at HD HO
              simp only [endOf] at HD
              have hyn : ¬ (y : Int) < 0 := by omega
              by_cases hyl : y < s.size
              · have hylL : y < (L s).length := by rw [L_len]; exact hyl
                have hgy : (L s)[y] = s[y] := L_get s y hyl
                by_cases h3 : s[y].toNat = 41
                · have f3 : (((s[y].toNat : Nat) : Int) != 41) = false := by simp; omega
                  have hor : ¬ (((y : Int) < 0 ∨ s.size ≤ y) ∨ (((s[y].toNat : Nat) : Int) != 41) = true) := by rw [f3]; simp; omega
                  have h41 : (L s)[y]? = some 41 := by rw [List.getElem?_eq_getElem hylL, hgy]; congr 1; exact UInt8.toNat.inj h3
                  have HR := Lib.hid (show endOf (rdAt (f + 1) (L s) i) = (y : Int) + 1 by rw [HO.out]; simp only []; rw [if_pos h41]; simp [endOf])
                  clear eb HO h3 h41 hgy
                  go_enter Try.func228, Try.ntmps228
                  go_wp2_with fail
                  refine HC.out.mono ?_; rintro e w1 ⟨rfl, rfl⟩
                  go_wp2_with fail
                  refine HD.out.mono ?_; rintro e w1 ⟨rfl, rfl⟩
                  go_wp2_with fail
                  go_ret
                  exact ⟨by rw [HR.out]; rfl, rfl⟩
                · have f3 : (((s[y].toNat : Nat) : Int) != 41) = true := by simp; omega
                  have hor : (((y : Int) < 0 ∨ s.size ≤ y) ∨ (((s[y].toNat : Nat) : Int) != 41) = true) := .inr f3
                  have h41 : ¬ (L s)[y]? = some 41 := by rw [List.getElem?_eq_getElem hylL, hgy]; intro h; exact h3 (by rw [Option.some.inj h]; rfl)
                  have HR := Lib.hid (show endOf (rdAt (f + 1) (L s) i) = -1 by rw [HO.out]; simp only []; rw [if_neg h41]; rfl)
                  clear eb HO h3 h41 hgy
                  go_enter Try.func228, Try.ntmps228
                  go_wp2_with fail
                  refine HC.out.mono ?_; rintro e w1 ⟨rfl, rfl⟩
                  go_wp2_with fail
                  refine HD.out.mono ?_; rintro e w1 ⟨rfl, rfl⟩
                  go_wp2_with fail
                  go_ret
                  exact ⟨by rw [HR.out]; rfl, rfl⟩
                  rename_i hq
                  exfalso
                  have hq2 := hq.2
                  simp at hq2 f3
                  omega
              · have hyl' : ¬ (y : Int) < (s.size : Int) := by omega
                have h41 : ¬ (L s)[y]? = some 41 := by rw [List.getElem?_eq_none (by rw [L_len]; omega)]; exact fun h => by cases h
                have HR := Lib.hid (show endOf (rdAt (f + 1) (L s) i) = -1 by rw [HO.out]; simp only []; rw [if_neg h41]; rfl)
                clear eb HO h41
                go_enter Try.func228, Try.ntmps228
                go_wp2_with fail
                refine HC.out.mono ?_; rintro e w1 ⟨rfl, rfl⟩
                go_wp2_with fail
                refine HD.out.mono ?_; rintro e w1 ⟨rfl, rfl⟩
                go_wp2_with fail
                go_ret
                exact ⟨by rw [HR.out]; rfl, rfl⟩
        · have f2 : (((s[i].toNat : Nat) : Int) == 40) = false := by simp; omega
          have HR := Lib.hid (show endOf (rdAt (f + 1) (L s) i) = -1 by rw [rdAt_other hlL (fun h => h1 ((hn 46).1 h)) (fun h => h2 ((hn 40).1 h))]; rfl)
          clear h1 h2 hn hg
          go_enter Try.func228, Try.ntmps228
          go_wp2_with fail
          go_ret
          exact ⟨by rw [HR.out]; rfl, rfl⟩
    · have hge : ¬ (i : Int) < (s.size : Int) := by omega
      have HR := Lib.hid (show endOf (rdAt (f + 1) (L s) i) = -1 by rw [rdAt_end (by rw [L_len]; omega)]; rfl)
      go_enter Try.func228, Try.ntmps228
      go_wp2_with fail
      go_ret
      exact ⟨by rw [HR.out]; rfl, rfl⟩
end Go.Proofs.Ytnkkgfeegaiakaa
