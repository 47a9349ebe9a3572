/- Contracts of the laws' helpers on slices of texts, for nine texts and marks from 1 to 9. No condition. -/
import Derived.Test.YtkfhcljiifpckaaConv
import Derived.Deep.RegionHeld3
namespace Go.Proofs.Ytkfhcljiifpckaa
open Go.RowKit
/-- a slice value that owns a row of texts in a block from base on; that reads as texts -/
def OwS (w : World) (base : Nat) (v : Value) (ss : List ByteArray) : Prop := w.ownsRow base 9 1 v ss.length (ss.map Value.string) ∧ ss.length ≤ 1099511627776
def RdS (w : World) (v : Value) (ss : List ByteArray) : Prop :=
  ∃ A c, v = .slice A ss.length c ∧ ss.length ≤ c ∧ ss.length ≤ 1099511627776 ∧ (0 < ss.length → ∃ b o, A = some ⟨b, o, none⟩ ∧ b < w.heap.size ∧ ∀ k (_ : k < ss.length), w.cell? ⟨b, o + k, none⟩ = some (.string ss[k]))
theorem OwS.rd {w : World} {base : Nat} {v : Value} {ss : List ByteArray} (h : OwS w base v ss) : RdS w v ss := by
  obtain ⟨h, hl⟩ := h
  rcases h.2 with ⟨rfl, h0⟩ | ⟨g, cap, cur, rfl, hb, hh, hn, hm, hs, ht⟩
  · have hx : ss = [] := List.eq_nil_of_length_eq_zero h0
    subst hx
    exact ⟨none, 0, rfl, Nat.le_refl _, by simp, fun h => by simp at h⟩
  · refine ⟨_, cap, rfl, hn, hl, fun _ => ⟨g, 0, rfl, ?_, fun k hk => ?_⟩⟩
    · rcases Nat.lt_or_ge g w.heap.size with hlt | hge
      · exact hlt
      · rw [Array.getElem?_eq_none hge] at hh; cases hh
    · rw [Nat.zero_add, h.cellAt k (by simpa using hk)]
      simp [hk]
theorem OwS.below {w w' : World} {base : Nat} {v : Value} {ss : List ByteArray} (h : OwS w base v ss) (hb : Below w.heap.size w w') : OwS w' base v ss := by
  refine ⟨h.1.kept (grown_of_below hb) ?_, h.2⟩
  cases hv : v.ownBlock <;> simp
theorem OwS.grown {w w' : World} {base : Nat} {v : Value} {ss : List ByteArray} {row : Option Nat} (h : OwS w base v ss) (hg : w.grownBy w' row) (hne : v.ownBlock = none ∨ v.ownBlock ≠ row) : OwS w' base v ss := ⟨h.1.kept hg hne, h.2⟩
theorem OwS.lt {w : World} {base : Nat} {v : Value} {ss : List ByteArray} (h : OwS w base v ss) : ∀ k, v.ownBlock = some k → base ≤ k ∧ k < w.heap.size := h.1.lt
theorem OwS.shape {w : World} {base : Nat} {v : Value} {ss : List ByteArray} (h : OwS w base v ss) : (v = .slice none 0 0 ∧ ss = []) ∨ ∃ g cap, v = .slice (some ⟨g, 0, none⟩) ss.length cap ∧ base ≤ g ∧ g < w.heap.size := by
  rcases h.1.2 with ⟨e, h0⟩ | ⟨g, cap, cur, e, hb, hh, _⟩
  · exact .inl ⟨e, List.eq_nil_of_length_eq_zero h0⟩
  · refine .inr ⟨g, cap, e, hb, ?_⟩
    rcases Nat.lt_or_ge g w.heap.size with hlt | hge
    · exact hlt
    · rw [Array.getElem?_eq_none hge] at hh; cases hh
/-- the mark of a digit: the letter m and the digit -/
def mkT (k : Nat) : ByteArray := ⟨#[109, UInt8.ofNat (48 + k)]⟩
theorem mkT_eq (k : Nat) (h1 : 1 ≤ k) (h9 : k ≤ 9) : (⟨#[109]⟩ : ByteArray) ++ ((⟨#[48 + UInt8.ofNat (k % 10)]⟩ : ByteArray) ++ ⟨#[]⟩) = mkT k := by
  rcases (show k = 1 ∨ k = 2 ∨ k = 3 ∨ k = 4 ∨ k = 5 ∨ k = 6 ∨ k = 7 ∨ k = 8 ∨ k = 9 from by omega) with rfl | rfl | rfl | rfl | rfl | rfl | rfl | rfl | rfl <;> rfl
theorem ret_str {a b : ByteArray} (h : a = b) : Ending.returned (.string a) = .returned (.string b) := by rw [h]
theorem markText_any (k : Nat) (w : World) (h1 : 1 ≤ k) (h9 : k ≤ 9) :
    Calls Try.prog 46 #[.int .i64 (k : Int)] w fun e w' => e = .returned (.string (mkT k)) ∧ Below w.heap.size w w' := by
  have hk0 : (0 : Int) < (k : Int) := by omega
  have hkm : (k : Int) % 10 = (k : Int) := by omega
  have hkq : (k : Int) / 10 = 0 := by omega
  have HM := Lib.hid hkm
  have HQ := Lib.hid hkq
  have hq0 : (k : Int) / 10 ≤ 0 := by omega
  clear hkm hkq
  have kc := conv_one
  go_enter Try.func46, Try.ntmps46
  go_wp2_with fail
  refine wp_loop_rounds 2 ?_
  rw [rounds_succ]
  go_wp2_with fail
  rw [rounds_succ]
  go_wp2_with fail
  go_ret
  exact ⟨ret_str (mkT_eq k h1 h9), (Below.refl _ _).alloc (Nat.le_refl _) _⟩
theorem eqStringS_any (a b : Value) (xs ys : List ByteArray) (w : World) (ha : RdS w a xs) (hb : RdS w b ys) (he : xs = ys) :
    Calls Try.prog 23 #[a, b] w fun e w' => e = .returned (.bool true) ∧ ∃ q, w' = w.drewN q := by
  subst he
  obtain ⟨A, c, rfl, hc, hl, hA⟩ := ha
  obtain ⟨B, d, rfl, hd, hm, hB⟩ := hb
  go_enter Try.func23, Try.ntmps23
  go_wp2_with fail
  go_loopw [5] (fun i wr => ∃ k : Nat, k ≤ xs.length ∧ i = .int .i64 k ∧ ∃ q, wr = w.drewN q) (fun i _ => xs.length - (intOf i).toNat)
  case atStart => exact ⟨0, by omega, rfl, 0, rfl⟩
  case round =>
    obtain ⟨k, hk, rfl, q, rfl⟩ := hrel
    by_cases hlt : k < xs.length
    · obtain ⟨b1, o1, rfl, _, h1⟩ := hA (by omega)
      obtain ⟨b2, o2, rfl, _, h2⟩ := hB (by omega)
      have c1 := h1 k hlt
      have c2 := h2 k hlt
      clear h1 h2 hA hB
      go_wp2_with fail
      go_quiet (fail)
      go_wp2_with fail
      go_roundw
      case rel => exact ⟨k + 1, by omega, by go_num, _, rfl⟩
      case measure => simp [intOf]; omega
    · go_wp2_with fail
      go_ret
      exact ⟨rfl, q, rfl⟩
def marksT (n : Nat) : List ByteArray := (List.range n).map fun i => mkT (i + 1)
theorem marksT_len (n : Nat) : (marksT n).length = n := by simp [marksT]
theorem markT_set (ss : List ByteArray) (k : Nat) (h : k < ss.length) : (marksT (k + 1) ++ ss.drop (k + 1)).map Value.string = ((marksT k ++ ss.drop k).map Value.string).set k (.string (mkT (k + 1))) := by
  rw [drop_get_cons _ _ h, List.map_append, List.map_append, List.map_cons, set_append_mid _ _ _ _ k (by simp [marksT])]
  simp [marksT, List.range_succ]
theorem get_mid {α β : Type} (f : α → β) (l r : List α) (k : Nat) (hk : l.length = k) (h : k < r.length) : ((l ++ r.drop k).map f)[k]? = some (f r[k]) := by
  subst hk
  rw [List.map_append, List.getElem?_append_right (by simp)]
  simp [h]
theorem markStringS_any (v : Value) (ss : List ByteArray) (w : World) (base : Nat) (hv : OwS w base v ss) (hn : ss.length ≤ 9) :
    Calls Try.prog 24 #[v, .int .i64 1] w fun e w' => e = .returned (.int .i64 ((1 + ss.length : Nat) : Int)) ∧ OwS w' base v (marksT ss.length) ∧ w.grownBy w' v.ownBlock := by
  have hl := hv.2
  rcases hv.shape with ⟨rfl, rfl⟩ | ⟨g, cap, rfl, hg, hgs⟩
  · go_enter Try.func24, Try.ntmps24
    go_wp2_with fail
    refine wp_loop_rounds 1 ?_
    rw [rounds_succ]
    go_wp2_with fail
    go_ret
    exact ⟨rfl, hv, World.grownBy.refl _ _⟩
  · go_enter Try.func24, Try.ntmps24
    go_wp2_with fail
    go_loopw [1, 5] (fun q i wr => ∃ k : Nat, k ≤ ss.length ∧ i = .int .i64 k ∧ q = .int .i64 ((k + 1 : Nat) : Int) ∧ wr.ownsRow base 9 1 (.slice (some ⟨g, 0, none⟩) ss.length cap) ss.length ((marksT k ++ ss.drop k).map Value.string) ∧ w.grownBy wr (some g)) (fun _ i _ => ss.length - (intOf i).toNat)
    case atStart => exact ⟨0, by omega, rfl, rfl, by simpa [marksT] using hv.1, World.grownBy.refl _ _⟩
    case round =>
      obtain ⟨k, hk, rfl, rfl, hown, hG⟩ := hrel
      by_cases hlt : k < ss.length
      · go_wp2_with fail
        refine (markText_any (k + 1) _ (by omega) (by omega)).mono ?_; rintro e w1 ⟨rfl, b1⟩
        have hown1 := hown.kept (grown_of_below b1) (by simp [Value.ownBlock])
        have hG1 : w.grownBy w1 (some g) := grown_trans_row hG ⟨b1.os, b1.tape, b1.output, b1.size, fun k hk _ => b1.block k hk⟩
        have c2 := hown1.cellAt k (by omega)
        have c3 := hown1.frozenAt k
        have c2' : w1.cell? ⟨g, k, none⟩ = some (.string ss[k]) := by
          rw [c2]
          exact get_mid _ _ _ _ (marksT_len k) hlt
        clear c2
        go_wp2_with fail
        go_roundw
        case rel =>
          refine ⟨k + 1, by omega, by go_num, by go_num, ?_, ?_⟩
          · rw [markT_set _ _ hlt]
            exact (hown1.stored k _).1
          · exact grown_trans_row hG1 (hown1.stored k _).2
        case measure => simp [intOf]; omega
      · have hke : k = ss.length := by omega
        go_wp2_with fail
        go_ret
        subst hke
        refine ⟨ret_int (by omega), ⟨?_, by simpa [marksT] using hl⟩, hG⟩
        simpa [marksT_len] using hown
theorem heldStringS_any (v : Value) (n : Nat) (w : World) (hv : RdS w v (marksT n)) (hn : n ≤ 9) :
    Calls Try.prog 25 #[v, .int .i64 1] w fun e w' => e = .returned (.int .i64 ((1 + n : Nat) : Int)) ∧ Below w.heap.size w w' := by
  obtain ⟨A, c, rfl, hc, hl, hA⟩ := hv
  rw [marksT_len] at *
  go_enter Try.func25, Try.ntmps25
  go_wp2_with fail
  go_loopw [1, 5] (fun q i wr => ∃ k : Nat, k ≤ n ∧ i = .int .i64 k ∧ q = .int .i64 ((k + 1 : Nat) : Int) ∧ Below w.heap.size w wr) (fun _ i _ => n - (intOf i).toNat)
  case atStart => exact ⟨0, by omega, rfl, rfl, Below.refl _ _⟩
  case round =>
    obtain ⟨k, hk, rfl, rfl, hB⟩ := hrel
    by_cases hlt : k < n
    · obtain ⟨b, o, rfl, hb, hcl⟩ := hA (by rw [marksT_len]; omega)
      have c1 := (hB.cell (p := ⟨b, o + k, none⟩) hb).trans (hcl k (by rw [marksT_len]; exact hlt))
      simp only [marksT, List.getElem_map, List.getElem_range] at c1
      clear hcl
      go_wp2_with fail
      go_region_held3 (fun w' => w'.cell? ⟨b, o + k, none⟩ = some (.string (mkT (k + 1))) ∧ Below w.heap.size w w') (first | exact ⟨c1, hB.drew⟩ | (go_split_ands; exact ⟨(b1.cell (p := ⟨b, o + k, none⟩) (Nat.lt_of_lt_of_le hb (Below.size (by assumption)))).trans (by assumption), below_then (by assumption) b1⟩))
        (first | (go_at_call 46; refine (markText_any (k + 1) _ (by omega) (by omega)).mono ?_; rintro e w1 ⟨rfl, b1⟩))
      go_split_ands
      go_wp2_with fail
      go_roundw
      case rel => exact ⟨k + 1, by omega, by go_num, by go_num, by assumption⟩
      case measure => simp [intOf]; omega
    · have hke : k = n := by omega
      go_wp2_with fail
      go_ret
      subst hke
      exact ⟨ret_int (by omega), hB⟩
/-- the nine names -/
def names9 : List ByteArray := [⟨#[112, 101, 97, 107, 115]⟩, ⟨#[114, 101, 116, 117, 114, 110, 115]⟩, ⟨#[114, 105, 115, 101]⟩, ⟨#[97, 114, 101, 97]⟩, ⟨#[100, 101, 112, 116, 104]⟩, ⟨#[108, 101, 97, 118, 101, 115]⟩, ⟨#[98, 108, 111, 99, 107, 115]⟩, ⟨#[109, 97, 106, 111, 114]⟩, ⟨#[102, 97, 108, 108]⟩]
theorem OwS.lit (w : World) (ss : List ByteArray) (base : Nat) (hb : base ≤ w.heap.size) (hl : ss.length ≤ 1099511627776) : OwS (w.alloc (.cells (ss.map Value.string).toArray 9)) base (.slice (some ⟨w.heap.size, 0, none⟩) ss.length ss.length) ss := by
  refine ⟨?_, hl⟩
  have := World.ownsRow_lit (base := base) (e := 9) (size := 1) w (ss.map Value.string).toArray ss.length hb (by unfold maxLen; omega) (by simp)
  simpa using this
theorem implStatisticNames_any (w : World) :
    Calls Try.prog 22 #[] w fun e w' => ∃ r, e = .returned r ∧ OwS w' w.heap.size r names9 ∧ Below w.heap.size w w' := by
  go_enter Try.func22, Try.ntmps22
  go_wp2_with fail
  go_ret
  exact ⟨_, rfl, OwS.lit w names9 _ (Nat.le_refl _) (by simp [names9]), (Below.refl _ _).alloc (Nat.le_refl _) _⟩
theorem specStatisticNames_any (w : World) :
    Calls Try.prog 21 #[] w fun e w' => ∃ r, e = .returned r ∧ OwS w' w.heap.size r names9 ∧ Below w.heap.size w w' := by
  go_enter Try.func21, Try.ntmps21
  go_wp2_with fail
  go_ret
  exact ⟨_, rfl, OwS.lit w names9 _ (Nat.le_refl _) (by simp [names9]), (Below.refl _ _).alloc (Nat.le_refl _) _⟩
end Go.Proofs.Ytkfhcljiifpckaa
