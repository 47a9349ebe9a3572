/- Trees by pointers: contract of treeOfTriangles: the tree of first third corners. Conditions: rows of two, corners of a small polygon. -/
import Derived.Test.YtnkkgfeegaiakaaTriSide
import Derived.Deep.RegionLaw
import Derived.OneCell
namespace Go.Proofs.Ytnkkgfeegaiakaa
open Go.RowKit
def TreeAt (w : World) : Value → Tr → Prop
  | v, .lf => v = .pointer none
  | v, .nd a b => ∃ g va vb, v = .pointer (some ⟨g, 0, none⟩) ∧ w.heap[g]? = some (.cells #[va, vb] 116 (0, 0)) ∧ TreeAt w va a ∧ TreeAt w vb b
theorem lt_block {w : World} {g : Nat} {o : Obj} (h : w.heap[g]? = some o) : g < w.heap.size := by
  rcases Nat.lt_or_ge g w.heap.size with q | q
  · exact q
  · rw [Array.getElem?_eq_none q] at h; cases h
theorem TreeAt.below {w w' : World} (hb : Below w.heap.size w w') : ∀ (T : Tr) {v : Value}, TreeAt w v T → TreeAt w' v T := by
  intro T
  induction T with
  | lf => intro v h; exact h
  | nd a b iha ihb =>
    rintro v ⟨g, va, vb, h1, h2, h3, h4⟩
    exact ⟨g, va, vb, h1, (hb.block g (lt_block h2)).trans h2, iha h3, ihb h4⟩
theorem TreeAt.ptr {w : World} {v : Value} : ∀ (T : Tr), TreeAt w v T → ∃ p, v = .pointer p := by
  intro T h
  cases T with
  | lf => exact ⟨none, h⟩
  | nd a b =>
    obtain ⟨g, _, _, h1, _⟩ := h
    exact ⟨_, h1⟩
def RetTr (w : World) (T : Tr) (e : Ending) (w' : World) : Prop := ∃ v, e = .returned v ∧ TreeAt w' v T ∧ Below w.heap.size w w'
theorem apx_hit {d : List (List Int)} {l r : Int} {k : Nat} (hk : l + 1 + (k : Int) < r) (hp : ∀ i, i < k → (ed d l (l + 1 + (i : Int)) && ed d (l + 1 + (i : Int)) r) = false) (h : (ed d l (l + 1 + (k : Int)) && ed d (l + 1 + (k : Int)) r) = true) : apx d l r = some (l + 1 + (k : Int)) := by
  unfold apx
  rw [List.find?_map]
  have : (List.range (r - l - 1).toNat).find? ((fun m => ed d l m && ed d m r) ∘ fun (i : Nat) => l + 1 + (i : Int)) = some k := by
    rw [List.find?_eq_some_iff_append]
    refine ⟨h, List.range k, List.range' (k + 1) ((r - l - 1).toNat - k - 1), ?_, ?_⟩
    · rw [List.range_eq_range', List.range_eq_range', show (r - l - 1).toNat = k + (((r - l - 1).toNat - k - 1) + 1) by omega, ← List.range'_append_1, Nat.zero_add, List.range'_succ]
      congr 3
      omega
    · intro i hi
      show (!(ed d l (l + 1 + (i : Int)) && ed d (l + 1 + (i : Int)) r)) = true
      rw [hp i (List.mem_range.1 hi)]; rfl
  rw [this]; rfl
theorem apx_miss {d : List (List Int)} {l r : Int} {k : Nat} (hk : ¬ l + 1 + (k : Int) < r) (hp : ∀ i, i < k → (ed d l (l + 1 + (i : Int)) && ed d (l + 1 + (i : Int)) r) = false) : apx d l r = none := by
  unfold apx
  rw [List.find?_eq_none]
  intro m hm
  obtain ⟨i, hi, rfl⟩ := List.mem_map.1 hm
  rw [hp i (by have := List.mem_range.1 hi; omega)]
  simp
set_option maxRecDepth 8000 in
set_option maxHeartbeats 4000000 in
theorem treeOf_any (n : Int) (d : List (List Int)) (h2 : Two d) : ∀ (f : Nat) (l r : Int) (dv : Value) (w : World), (r - l).toNat ≤ f → 0 ≤ l ∧ l ≤ 10 → 0 ≤ r ∧ r ≤ 10 → RdSS w dv d →
    Calls Try.prog 174 #[.int .i64 n, dv, .int .i64 l, .int .i64 r] w (RetTr w (tOf d f l r)) := by
  intro f
  induction f with
  | zero =>
    intro l r dv w hf hl hr hv
    obtain ⟨A, c, rfl, _, _, _⟩ := id hv
    have hlr : ¬ l + 1 < r := by omega
    have ew : IntKind.i64.wrap (l + 1) = l + 1 := IntWalk.i64_in _ (by omega)
    have hB : Below w.heap.size w (w.alloc (.cells #[.slice A d.length c] 22)) := (Below.refl _ _).alloc (Nat.le_refl _) _
    go_enter Try.func174, Try.ntmps174
    go_wp2_with fail
    refine wp_loop_rounds 1 ?_
    rw [rounds_succ]
    go_wp2_with fail
    go_ret
    exact ⟨_, rfl, rfl, hB⟩
  | succ f ih =>
    intro l r dv w hf hl hr hv
    obtain ⟨A, c, edv, _, _, _⟩ := id hv
    subst edv
    have ew : IntKind.i64.wrap (l + 1) = l + 1 := IntWalk.i64_in _ (by omega)
    have hB : Below w.heap.size w (w.alloc (.cells #[.slice A d.length c] 22)) := (Below.refl _ _).alloc (Nat.le_refl _) _
    have hbox : (w.alloc (.cells #[.slice A d.length c] 22)).heap[w.heap.size]? = some (.cells #[.slice A d.length c] 22 (0, 0)) := heap_alloc_new w _
    have hv1 := hv.below hB
    have HIH := Lib.hid ih
    clear ih
    go_enter Try.func174, Try.ntmps174
    go_wp2_with fail
    have hbc := box_cell hbox
    generalize w.alloc (.cells #[.slice A d.length c] 22) = w1 at *
    have HBX := Lib.hid hbox
    clear hbox
    go_loop [10] (fun m => ∃ k : Nat, m = .int .i64 (l + 1 + (k : Int)) ∧ k ≤ 10 ∧ Hid (∀ i, i < k → (ed d l (l + 1 + (i : Int)) && ed d (l + 1 + (i : Int)) r) = false)) (fun m => 22 - (intOf m).toNat)
    case atStart => exact ⟨0, by simp, by omega, fun i hi => absurd hi (by omega)⟩
    case round =>
      obtain ⟨k, rfl, hk10, HP⟩ := hrel
      by_cases hlt : l + 1 + (k : Int) < r
      · obtain ⟨M, hM⟩ : ∃ M, M = l + 1 + (k : Int) := ⟨_, rfl⟩
        rw [← hM] at hlt ⊢
        have hMr : 0 ≤ M ∧ M ≤ 10 := by omega
        have HE1 := Lib.hid (edge_any l M _ _ d w1 HBX.out hv1 h2 hl hMr)
        have HE2 := Lib.hid (edge_any M r _ _ d w1 HBX.out hv1 h2 hMr hr)
        have ewM : IntKind.i64.wrap (M + 1) = M + 1 := IntWalk.i64_in _ (by omega)
        have HM := Lib.hid hM
        have hmm : M < 20 := by omega
        clear hM
        rcases h1 : ed d l M with _ | _
        · rw [h1] at HE1
          have HN := Lib.hid (show ∀ i, i < k + 1 → (ed d l (l + 1 + (i : Int)) && ed d (l + 1 + (i : Int)) r) = false from fun i hi => by
            rcases Nat.lt_or_ge i k with q | q
            · exact HP.out i q
            · rw [show i = k by omega, ← HM.out, h1]; rfl)
          clear h1
          go_wp2_with fail
          refine HE1.out.mono ?_; rintro e w2 ⟨rfl, rfl⟩
          go_wp2_with fail
          go_round
          case rel => exact ⟨k + 1, by rw [HM.out]; congr 1; omega, by have := HM.out; omega, HN.out⟩
          case measure => simp [intOf]; omega
        · rw [h1] at HE1
          rcases h3 : ed d M r with _ | _
          · rw [h3] at HE2
            have HN := Lib.hid (show ∀ i, i < k + 1 → (ed d l (l + 1 + (i : Int)) && ed d (l + 1 + (i : Int)) r) = false from fun i hi => by
              rcases Nat.lt_or_ge i k with q | q
              · exact HP.out i q
              · rw [show i = k by omega, ← HM.out, h1, h3]; rfl)
            clear h1 h3
            go_wp2_with fail
            refine HE1.out.mono ?_; rintro e w2 ⟨rfl, rfl⟩
            go_wp2_with fail
            refine HE2.out.mono ?_; rintro e w2 ⟨rfl, rfl⟩
            go_wp2_with fail
            go_round
            case rel => exact ⟨k + 1, by rw [HM.out]; congr 1; omega, by have := HM.out; omega, HN.out⟩
            case measure => simp [intOf]; omega
          · rw [h3] at HE2
            have HT := Lib.hid (show tOf d (f + 1) l r = .nd (tOf d f l M) (tOf d f M r) by
              have := apx_hit (by rw [← HM.out]; exact hlt) HP.out (by rw [← HM.out, h1, h3]; rfl)
              rw [← HM.out] at this
              show (match apx d l r with | none => Tr.lf | some m => Tr.nd (tOf d f l m) (tOf d f m r)) = _
              rw [this])
            have hMl : l < M := by have := HM.out; omega
            have HF1 := Lib.hid (HIH.out l M _ w1.drew (by omega) hl hMr hv1)
            have HBW := Lib.hid hB
            have hne : l ≠ M := by omega
            clear h1 h3
            go_wp2_with fail
            refine HE1.out.mono ?_; rintro e w2 ⟨rfl, rfl⟩
            go_wp2_with fail
            refine HE2.out.mono ?_; rintro e w2 ⟨rfl, rfl⟩
            clear HE1 HE2
            go_wp2_with fail
            go_region_law (first
              | (go_simp
                 go_at_call_of 174 (Value.int .i64 l)
                 have H1 := HF1.out
                 refine H1.mono ?_
                 clear H1
                 rintro e w3 ⟨v3, rfl, t3, b3⟩
                 obtain ⟨p3, e3⟩ := TreeAt.ptr _ t3
                 subst e3
                 have b3' : Below w1.heap.size w1 w3 := below_then (below_draws w1 1) b3
                 have c3 := (b3'.cell (p := ⟨w.heap.size, 0, none⟩) (lt_block HBX.out)).trans hbc
                 have HF2 := Lib.hid (HIH.out M r _ w3 (by omega) hMr hr (hv1.below b3'))
                 have T3 := Lib.hid t3
                 have B3 := Lib.hid b3'
                 clear t3 b3 b3')
              | (go_simp
                 go_at_call_of 174 (Value.int .i64 r)
                 refine HF2.out.mono ?_
                 rintro e w4 ⟨v4, rfl, t4, b4⟩
                 obtain ⟨p4, e4⟩ := TreeAt.ptr _ t4
                 subst e4
                 have T4 := Lib.hid t4
                 have B4 := Lib.hid b4
                 clear t4 b4))
            all_goals (
              go_wp2_with fail
              go_ret
              refine ⟨_, rfl, ?_, below_then HBW.out (below_then B3.out (below_then B4.out ((Below.refl _ _).alloc (Nat.le_refl _) _)))⟩
              rw [HT.out]
              exact ⟨_, _, _, rfl, heap_alloc_new w4 _, (T3.out.below (T := _) B4.out).below (T := _) ((Below.refl _ _).alloc (Nat.le_refl _) _), T4.out.below (T := _) ((Below.refl _ _).alloc (Nat.le_refl _) _)⟩)
      · have HT := Lib.hid (show tOf d (f + 1) l r = .lf by
          have := apx_miss hlt HP.out
          show (match apx d l r with | none => Tr.lf | some m => Tr.nd (tOf d f l m) (tOf d f m r)) = _
          rw [this])
        go_wp2_with fail
        go_ret
        exact ⟨_, rfl, by rw [HT.out]; rfl, hB⟩
end Go.Proofs.Ytnkkgfeegaiakaa
