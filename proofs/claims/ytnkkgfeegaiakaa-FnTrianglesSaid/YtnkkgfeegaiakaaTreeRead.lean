/- Contract of the program's readTree: the tree at a place and the place behind it, or none and -1. Condition: a short text. -/
import Derived.Test.YtnkkgfeegaiakaaTreeEnd
import Derived.Test.YtnkkgfeegaiakaaTreeNodes
namespace Go.Proofs.Ytnkkgfeegaiakaa
open Go.RowKit
def trOf (o : Option (Tr × Nat)) : Tr := match o with
  | none => .lf
  | some (a, _) => a
def RetRd (w : World) (o : Option (Tr × Nat)) (e : Ending) (w' : World) : Prop := ∃ v, e = .returned (.tuple #[v, .int .i64 (endOf o)]) ∧ TreeAt w' v (trOf o) ∧ Below w.heap.size w w'
theorem RetRd.no {w : World} {e : Ending} {w' : World} (h : RetRd w none e w') : e = .returned (.tuple #[.pointer none, .int .i64 (-1)]) ∧ Below w.heap.size w w' := by
  obtain ⟨v, rfl, h2, h3⟩ := h
  have h4 : v = .pointer none := h2
  exact ⟨by rw [h4]; rfl, h3⟩
theorem RetRd.yes {w : World} {e : Ending} {w' : World} {a : Tr} {x : Nat} (h : RetRd w (some (a, x)) e w') : ∃ p, e = .returned (.tuple #[.pointer p, .int .i64 (x : Int)]) ∧ TreeAt w' (.pointer p) a ∧ Below w.heap.size w w' := by
  obtain ⟨v, rfl, h2, h3⟩ := h
  obtain ⟨p, rfl⟩ := TreeAt.ptr _ h2
  exact ⟨p, rfl, h2, h3⟩
theorem RetRd.mkNo {w w' : World} {o : Option (Tr × Nat)} (h : o = none) (hb : Below w.heap.size w w') : RetRd w o (.returned (.tuple #[.pointer none, .int .i64 (-1)])) w' := by
  rw [h]; exact ⟨_, rfl, rfl, hb⟩
theorem RetRd.mkYes {w w' : World} {o : Option (Tr × Nat)} {a : Tr} {x : Nat} {v : Value} {j : Int} (h : o = some (a, x)) (hj : j = (x : Int)) (ht : TreeAt w' v a) (hb : Below w.heap.size w w') : RetRd w o (.returned (.tuple #[v, .int .i64 j])) w' := by
  rw [h, hj]; exact ⟨_, rfl, ht, hb⟩
set_option maxRecDepth 8000 in
set_option maxHeartbeats 2000000 in
theorem readTree_any (s : ByteArray) (hs : s.size ≤ 1000) : ∀ (f i : Nat) (w : World), s.size - i ≤ f → i ≤ s.size →
    Calls Try.prog 229 #[.string s, .int .i64 (i : Int)] w (RetRd w (rdAt f (L s) i)) := by
  intro f
  induction f with
  | zero =>
    intro i w hf hi
    have hge : ¬ (i : Int) < (s.size : Int) := by omega
    have HR := Lib.hid (show rdAt 0 (L s) i = none by rw [rdAt_end (by rw [L_len]; omega)])
    go_enter Try.func229, Try.ntmps229
    go_wp2_with fail
    go_ret2
    exact RetRd.mkNo HR.out (Below.refl _ _)
  | succ f ih =>
    intro i w hf hi
    have HIH := Lib.hid ih
    clear ih
    by_cases hlt : i < s.size
    · have hlL : i < (L s).length := by rw [L_len]; exact hlt
      have hg : (L s)[i] = s[i] := L_get s i hlt
      have hn : ∀ c : UInt8, (L s)[i] = c ↔ s[i].toNat = c.toNat := fun c => by rw [hg]; exact ⟨fun h => by rw [h], fun h => UInt8.toNat.inj h⟩
      by_cases h1 : s[i].toNat = 46
      · have f1 : (((s[i].toNat : Nat) : Int) == 46) = true := by simp; omega
        have HR := Lib.hid (show rdAt (f + 1) (L s) i = some (.lf, i + 1) from rdAt_dot hlL ((hn 46).2 h1))
        clear h1 hn hg
        go_enter Try.func229, Try.ntmps229
        go_wp2_with fail
        go_ret2
        exact RetRd.mkYes HR.out (by simp) rfl (Below.refl _ _)
      · have f1 : (((s[i].toNat : Nat) : Int) == 46) = false := by simp; omega
        by_cases h2 : s[i].toNat = 40
        · have f2 : (((s[i].toNat : Nat) : Int) == 40) = true := by simp; omega
          have HO := Lib.hid (rdAt_open (f := f) hlL ((hn 40).2 h2))
          have HC := Lib.hid (HIH.out (i + 1) w (by omega) (by omega))
          have ei : ((i + 1 : Nat) : Int) = (i : Int) + 1 := by omega
          rw [ei] at HC
          clear h1 h2 hn hg ei
          rcases ea : rdAt f (L s) (i + 1) with _ | ⟨a, x⟩
          · rw [ea] at HC HO
            have HR := Lib.hid (show rdAt (f + 1) (L s) i = none from HO.out)
            clear ea HO
            go_enter Try.func229, Try.ntmps229
            go_wp2_with fail
            refine HC.out.mono ?_; rintro e w1 h1
            obtain ⟨rfl, b1⟩ := h1.no
            go_wp2_with fail
            go_ret2
            exact RetRd.mkNo HR.out b1
          · obtain ⟨hx1, hx2, -⟩ := rdAt_le ea
            rw [L_len] at hx2
            rw [ea] at HC HO
            dsimp only at HO
            have HD := Lib.hid (fun wq => HIH.out x wq (by omega) (by omega))
            clear ea
            have hxn : ¬ (x : Int) < 0 := by omega
            rcases eb : rdAt f (L s) x with _ | ⟨b, y⟩
            · rw [eb] at HD HO
              have HR := Lib.hid (show rdAt (f + 1) (L s) i = none from HO.out)
              clear eb HO
              go_enter Try.func229, Try.ntmps229
              go_wp2_with fail
              refine HC.out.mono ?_; rintro e w1 h1
              obtain ⟨p1, rfl, t1, b1⟩ := h1.yes
              go_wp2_with fail
              refine (HD.out w1).mono ?_; rintro e w2 h2
              obtain ⟨rfl, b2⟩ := h2.no
              go_wp2_with fail
              go_ret2
              exact RetRd.mkNo HR.out (below_then b1 b2)
            · obtain ⟨hy1, hy2, -⟩ := rdAt_le eb
              rw [L_len] at hy2
              rw [eb] at HD HO
              dsimp only at HO
              have hyn : ¬ (y : Int) < 0 := by omega
              by_cases hyl : y < s.size
              · have hylL : y < (L s).length := by rw [L_len]; exact hyl
                have hgy : (L s)[y] = s[y] := L_get s y hyl
                by_cases h3 : s[y].toNat = 41
                · have f3 : (((s[y].toNat : Nat) : Int) != 41) = false := by simp; omega
                  have hor : ¬ (((y : Int) < 0 ∨ s.size ≤ y) ∨ (((s[y].toNat : Nat) : Int) != 41) = true) := by rw [f3]; simp; omega
                  have h41 : (L s)[y]? = some 41 := by rw [List.getElem?_eq_getElem hylL, hgy]; congr 1; exact UInt8.toNat.inj h3
                  have HR := Lib.hid (show rdAt (f + 1) (L s) i = some (.nd a b, y + 1) by rw [HO.out, if_pos h41])
                  clear eb HO h3 h41 hgy
                  go_enter Try.func229, Try.ntmps229
                  go_wp2_with fail
                  refine HC.out.mono ?_; rintro e w1 h1
                  obtain ⟨p1, rfl, t1, b1⟩ := h1.yes
                  go_wp2_with fail
                  refine (HD.out w1).mono ?_; rintro e w2 h2
                  obtain ⟨p2, rfl, t2, b2⟩ := h2.yes
                  have T1 := Lib.hid (t1.below b2)
                  have T2 := Lib.hid t2
                  clear t1 t2
                  go_wp2_with fail
                  go_ret2
                  exact RetRd.mkYes HR.out (by simp) ⟨_, _, _, rfl, heap_alloc_new w2 _, T1.out.below (T := _) ((Below.refl _ _).alloc (Nat.le_refl _) _), T2.out.below (T := _) ((Below.refl _ _).alloc (Nat.le_refl _) _)⟩ (below_then b1 (below_then b2 ((Below.refl _ _).alloc (Nat.le_refl _) _)))
                · have f3 : (((s[y].toNat : Nat) : Int) != 41) = true := by simp; omega
                  have hor : (((y : Int) < 0 ∨ s.size ≤ y) ∨ (((s[y].toNat : Nat) : Int) != 41) = true) := .inr f3
                  have h41 : ¬ (L s)[y]? = some 41 := by rw [List.getElem?_eq_getElem hylL, hgy]; intro h; exact h3 (by rw [Option.some.inj h]; rfl)
                  have HR := Lib.hid (show rdAt (f + 1) (L s) i = none by rw [HO.out, if_neg h41])
                  clear eb HO h3 h41 hgy
                  go_enter Try.func229, Try.ntmps229
                  go_wp2_with fail
                  refine HC.out.mono ?_; rintro e w1 h1
                  obtain ⟨p1, rfl, t1, b1⟩ := h1.yes
                  go_wp2_with fail
                  refine (HD.out w1).mono ?_; rintro e w2 h2
                  obtain ⟨p2, rfl, t2, b2⟩ := h2.yes
                  go_wp2_with fail
                  go_ret2
                  exact RetRd.mkNo HR.out (below_then b1 b2)
                  rename_i hq
                  exfalso
                  have hq2 := hq.2
                  simp at hq2 f3
                  omega
              · have hyl' : ¬ (y : Int) < (s.size : Int) := by omega
                have h41 : ¬ (L s)[y]? = some 41 := by rw [List.getElem?_eq_none (by rw [L_len]; omega)]; exact fun h => by cases h
                have HR := Lib.hid (show rdAt (f + 1) (L s) i = none by rw [HO.out, if_neg h41])
                clear eb HO h41
                go_enter Try.func229, Try.ntmps229
                go_wp2_with fail
                refine HC.out.mono ?_; rintro e w1 h1
                obtain ⟨p1, rfl, t1, b1⟩ := h1.yes
                go_wp2_with fail
                refine (HD.out w1).mono ?_; rintro e w2 h2
                obtain ⟨p2, rfl, t2, b2⟩ := h2.yes
                go_wp2_with fail
                go_ret2
                exact RetRd.mkNo HR.out (below_then b1 b2)
        · have f2 : (((s[i].toNat : Nat) : Int) == 40) = false := by simp; omega
          have HR := Lib.hid (show rdAt (f + 1) (L s) i = none from rdAt_other hlL (fun h => h1 ((hn 46).1 h)) (fun h => h2 ((hn 40).1 h)))
          clear h1 h2 hn hg
          go_enter Try.func229, Try.ntmps229
          go_wp2_with fail
          go_ret2
          exact RetRd.mkNo HR.out (Below.refl _ _)
    · have hge : ¬ (i : Int) < (s.size : Int) := by omega
      have HR := Lib.hid (show rdAt (f + 1) (L s) i = none by rw [rdAt_end (by rw [L_len]; omega)])
      go_enter Try.func229, Try.ntmps229
      go_wp2_with fail
      go_ret2
      exact RetRd.mkNo HR.out (Below.refl _ _)
end Go.Proofs.Ytnkkgfeegaiakaa
