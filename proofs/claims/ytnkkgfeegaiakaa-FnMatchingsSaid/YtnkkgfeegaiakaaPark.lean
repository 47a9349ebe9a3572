/- Contracts of PlacesOf and IsParking, the program's and the reference's. No condition. -/
import Derived.Test.YtnkkgfeegaiakaaNum
import Derived.Test.YtnkkgfeegaiakaaGround
namespace Go.Proofs.Ytnkkgfeegaiakaa
open Go.RowKit
theorem l12Cars_any (v : Value) (f : List Int) (w : World) (hv : RdI w v f) :
    Calls Try.prog 214 #[v] w fun e w' => e = .returned (.bool (decide (CarsP f))) ∧ w = w' := by
  obtain ⟨A, c, rfl, hc, hl, hA⟩ := hv
  go_enter Try.func214, Try.ntmps214
  go_wp2_with fail
  go_loop [3] (fun i => ∃ k : Nat, k ≤ f.length ∧ i = .int .i64 k ∧ Hid (∀ j, j < k → CarOk f j)) (fun i => f.length - (intOf i).toNat)
  case atStart => exact ⟨0, by omega, rfl, fun j hj => absurd hj (by omega)⟩
  case round =>
    obtain ⟨k, hk, rfl, HO⟩ := hrel
    by_cases hlt : k < f.length
    · obtain ⟨b, o, rfl, _, hcl⟩ := hA (by omega)
      have c1 := hcl k hlt
      clear hcl hA
      by_cases hin : 1 ≤ f[k] ∧ f[k] ≤ (f.length : Int)
      · obtain ⟨h0, h1⟩ := hin
        go_wp2_with (go_at_call 185; refine (l1In_yes _ _ _ _ (by omega) (by omega)).mono ?_; rintro e w' ⟨rfl, rfl⟩)
        go_round
        case rel =>
          refine ⟨k + 1, by omega, by go_num, fun j hj => ?_⟩
          rcases Nat.lt_or_ge j k with h | h
          · exact HO.out j h
          · obtain rfl : j = k := by omega
            exact CarOk.of hlt h0 h1
        case measure => simp [intOf]; omega
      · have HI := Lib.hid hin
        go_wp2_with (go_at_call 185; refine (l1In_no _ _ _ _ hin).mono ?_; rintro e w' ⟨rfl, rfl⟩)
        go_ret
        exact ⟨ret_bool (by simp [CarsP.not_at hlt (fun h => HI.out (h.get hlt))]), rfl⟩
    · have H := Lib.hid (show CarsP f ↔ f.length ≤ 6 from ⟨fun h => h.1, fun h => ⟨h, fun j hj => HO.out j (by omega)⟩⟩)
      go_wp2_with fail
      go_ret
      exact ⟨ret_bool (by simp [H.out]; omega), rfl⟩
theorem info_bool' : (Try.prog.info? 4).map (fun i => (i.zero, i.size, i.bytes)) = some (some (Value.bool false), 1, 1) := by kernel_rfl
set_option maxHeartbeats 1000000 in
theorem specPlacesOf_any (v : Value) (f : List Int) (w : World) (hv : RdI w v f) :
    Calls Try.prog 126 #[v] w (RetIB w (placesR f)) := by
  have hv0 := hv
  obtain ⟨A, c, rfl, hc, hl, _⟩ := hv
  by_cases hp : CarsP f
  · have hl6 := hp.1
    go_enter Try.func126, Try.ntmps126
    go_wp2_with fail
    have own0 := OwI.empty_ w w.heap.size (Nat.le_refl _)
    have hB00 : Below w.heap.size w (w.alloc (.cells #[] 3)) := (Below.refl _ _).alloc (Nat.le_refl _) _
    generalize w.alloc (.cells #[] 3) = w0 at own0 hB00 ⊢
    refine (l12Cars_any _ _ _ (hv0.below hB00)).mono ?_; rintro e w1 ⟨rfl, rfl⟩
    go_wp2_with (at_make; refine wpList_makeR (f := Value.bool) _ rfl _ _ 91 rfl 4 false 1 Try.underlying91 info_bool' rfl (by omega) _ _ _ _ (f.length + 2) rfl rfl (by go_num) (by go_num) (by omega) ?_)
    intro w1 htk0 b1
    have hB0 := below_then hB00 b1
    have own1 := own0.below b1
    have htk0 := htk0.mono hB00.size
    have hTB := hB00.size
    clear b1 hB00 own0
    generalize w0.heap.size = TB at htk0 hTB ⊢
    go_wp2_with fail
    go_loopw [4, 6] (fun x i wr => ∃ (k : Nat) (out : List Int), k ≤ f.length ∧ out.length = k ∧ i = .int .i64 k ∧ Hid (park f k = some out) ∧ OwI wr w.heap.size x out ∧ OwR 4 Value.bool wr w.heap.size (.slice (some ⟨TB, 0, none⟩) (f.length + 2) (f.length + 2)) (tkL out (f.length + 2)) ∧ Below w.heap.size w wr) (fun _ i _ => f.length - (intOf i).toNat)
    case atStart => exact ⟨0, [], by omega, rfl, rfl, park_zero f, own1, by rw [tkL_nil]; exact htk0, hB0⟩
    case round =>
      clear htk0 hB0 own1
      obtain ⟨k, out, hk, hol, rfl, HPK, hown, htk, hB⟩ := hrel
      have HOL := Lib.hid hol
      clear hol
      have hsz := hB.size
      have hap : Apart _ _ := OwR.apart_of_type (e := 3) (e' := 4) hown htk (by decide)
      by_cases hlt : k < f.length
      · obtain ⟨b, o, rfl, hb, hcl⟩ := (hv0.below hB).at_ (by omega)
        have d0 := hcl k hlt
        clear hcl
        have hr := (hp.2 k hlt).get hlt
        obtain ⟨p0, hp0⟩ : ∃ p0 : Nat, f[k] = (p0 : Int) := ⟨f[k].toNat, by omega⟩
        have HP : Hid (f[k].toNat = p0) := by show _ = _; omega
        have hp1 : 1 ≤ p0 := by omega
        have hp2 : p0 ≤ f.length := by omega
        rw [hp0] at d0
        clear hr hp0
        go_wp2_with fail
        go_loop [7] (fun x => ∃ j : Nat, p0 ≤ j ∧ j ≤ f.length + 1 ∧ x = .int .i64 j ∧ Hid (∀ i, p0 ≤ i → i < j → i ≤ f.length ∧ out.contains (i : Int) = true)) (fun x => f.length + 1 - (intOf x).toNat)
        case atStart => exact ⟨p0, Nat.le_refl _, by omega, by first | rfl | (simp only [HP.out]), fun i h1 h2 => absurd h2 (by omega)⟩
        case round =>
          obtain ⟨j, hj0, hj1, rfl, HJ⟩ := hrel
          by_cases hjn : j ≤ f.length
          · have hjl : j < (tkL out (f.length + 2)).length := by rw [tkL_len]; omega
            have d1 := htk.cellAt j hjl
            rw [tkL_get] at d1
            by_cases hin : out.contains (j : Int) = true
            · have HI := Lib.hid hin
              rw [hin] at d1
              clear hin
              go_wp2_with fail
              go_round
              case rel =>
                refine ⟨j + 1, by omega, by omega, by go_num, fun i h1 h2 => ?_⟩
                rcases Nat.lt_or_ge i j with h | h
                · exact HJ.out i h1 h
                · obtain rfl : i = j := by omega
                  exact ⟨hjn, HI.out⟩
              case measure => simp [intOf]; omega
            · have hin' : out.contains (j : Int) = false := by simpa using hin
              have HI := Lib.hid hin
              have HK := Lib.hid (park_hit hlt HPK.out (nf_is out f.length (j - p0) (f.length + 1) f[k].toNat j (by rw [HP.out]; omega) (by omega) (fun i h1 h2 => HJ.out i (by rw [HP.out] at h1; omega) h2) (fun h => HI.out h.2)) hjn)
              rw [hin'] at d1
              clear hin hin'
              have d2 := htk.frozenAt j
              have htk2 := (htk.stored j true).1
              have hown2 := hown.other (u := .slice (some ⟨TB, 0, none⟩) 0 0) (htk.stored j true).2 (fun g hg e => by injection e with e; exact hap g hg (by show some TB = some g; rw [show TB = g from e]))
              have hB2 : Below w.heap.size w (wr.setCell ⟨TB, j, none⟩ (.bool true)) := hB.setCell hTB _
              have hsz2 : w.heap.size ≤ (wr.setCell ⟨TB, j, none⟩ (.bool true)).heap.size := by simpa using hsz
              have hlen : out.length < 1099511627776 := by have := HOL.out; omega
              go_wp2_with (at_builtin; refine wpList_appI _ rfl _ _ rfl w.heap.size _ _ rfl hown2 _ rfl (by simp) hlen hsz2 ?_)
              intro v' w2 hown3 hg3 hat3
              have hB3 := below_of_own hB2 hg3 hsz2 (fun g hg => (hown2.lt g hg).1)
              have R := htk2.after_app hap hg3 hat3
              have HR := Lib.hid R
              clear R hown hown2 htk htk2
              go_wp2_with fail
              go_roundw
              case rel =>
                refine ⟨k + 1, out ++ [(j : Int)], by omega, by rw [List.length_append, HOL.out]; rfl, by go_num, HK.out, hown3, ?_, hB3⟩
                rw [tkL_set]
                exact HR.out.1
              case measure => simp [intOf]; omega
          · have HK := Lib.hid (park_full hlt HPK.out (nf_is out f.length (j - p0) (f.length + 1) f[k].toNat j (by rw [HP.out]; omega) (by omega) (fun i h1 h2 => HJ.out i (by rw [HP.out] at h1; omega) h2) (fun h => hjn h.1)) (by omega))
            clear d0
            go_wp2_with fail
            go_ret2
            exact RetIB.mk (placesR_none HK.out) (OwI.empty_ _ _ hsz) (hB.alloc hsz _)
      · have hke : k = f.length := by omega
        have HV := Lib.hid (show placesR f = (out, true) from placesR_some hp (by rw [← hke]; exact HPK.out))
        go_wp2_with fail
        go_ret2
        exact RetIB.mk HV.out hown hB
  · have HV := Lib.hid (placesR_bad hp)
    go_enter Try.func126, Try.ntmps126
    go_wp2_with fail
    have own0 := OwI.empty_ w w.heap.size (Nat.le_refl _)
    have hB00 : Below w.heap.size w (w.alloc (.cells #[] 3)) := (Below.refl _ _).alloc (Nat.le_refl _) _
    generalize w.alloc (.cells #[] 3) = w0 at own0 hB00 ⊢
    refine (l12Cars_any _ _ _ (hv0.below hB00)).mono ?_; rintro e w1 ⟨rfl, rfl⟩
    go_wp2_with fail
    go_ret2
    exact RetIB.mk HV.out own0 hB00
theorem info_bool'' : (Try.prog.info? 4).map (fun i => (i.zero, i.size, i.bytes)) = some (some (Value.bool false), 1, 1) := by kernel_rfl
set_option maxHeartbeats 1000000 in
theorem implPlacesOf_any (v : Value) (f : List Int) (w : World) (hv : RdI w v f) :
    Calls Try.prog 125 #[v] w (RetIB w (placesR f)) := by
  have hv0 := hv
  obtain ⟨A, c, rfl, hc, hl, _⟩ := hv
  by_cases hl6 : f.length ≤ 6
  · go_enter Try.func125, Try.ntmps125
    have own0 := OwI.empty_ w w.heap.size (Nat.le_refl _)
    have hB00 : Below w.heap.size w (w.alloc (.cells #[] 3)) := (Below.refl _ _).alloc (Nat.le_refl _) _
    go_wp2_with (at_make; refine wpList_makeR (f := Value.bool) _ rfl _ _ 91 rfl 4 false 1 Try.underlying91 info_bool'' rfl (by omega) _ _ _ _ (f.length + 1) rfl rfl (by go_num) (by go_num) (by omega) ?_)
    intro w1 htk0 b1
    have hs : (w.alloc (.cells #[] 3)).heap.size = w.heap.size + 1 := by simp
    rw [← hs] at b1 htk0 ⊢
    clear hs
    generalize w.alloc (.cells #[] 3) = w0 at own0 hB00 b1 htk0 ⊢
    have hB0 := below_then hB00 b1
    have own1 := own0.below b1
    have htk0 := htk0.mono hB00.size
    have hTB := hB00.size
    clear b1 hB00 own0
    generalize w0.heap.size = TB at htk0 hTB ⊢
    go_wp2_with fail
    go_loopw [5, 21] (fun x i wr => ∃ (k : Nat) (out : List Int), k ≤ f.length ∧ out.length = k ∧ i = .int .i64 k ∧ Hid (park f k = some out) ∧ OwI wr w.heap.size x out ∧ OwR 4 Value.bool wr w.heap.size (.slice (some ⟨TB, 0, none⟩) (f.length + 1) (f.length + 1)) (tkL out (f.length + 1)) ∧ Below w.heap.size w wr ∧ Hid (∀ j, j < k → CarOk f j)) (fun _ i _ => f.length - (intOf i).toNat)
    case atStart => exact ⟨0, [], by omega, rfl, rfl, park_zero f, own1, by rw [tkL_nil]; exact htk0, hB0, fun j hj => absurd hj (by omega)⟩
    case round =>
      clear htk0 hB0 own1
      obtain ⟨k, out, hk, hol, rfl, HPK, hown, htk, hB, HO⟩ := hrel
      have HOL := Lib.hid hol
      clear hol
      have hsz := hB.size
      have hap : Apart _ _ := OwR.apart_of_type (e := 3) (e' := 4) hown htk (by decide)
      by_cases hlt : k < f.length
      · obtain ⟨b, o, rfl, hb, hcl⟩ := (hv0.below hB).at_ (by omega)
        have d0 := hcl k hlt
        clear hcl
        by_cases hin : 1 ≤ f[k] ∧ f[k] ≤ (f.length : Int)
        · have HCK := Lib.hid (CarOk.of hlt hin.1 hin.2)
          obtain ⟨p0, hp0⟩ : ∃ p0 : Nat, f[k] = (p0 : Int) := ⟨f[k].toNat, by omega⟩
          have HP : Hid (f[k].toNat = p0) := by show _ = _; omega
          have hp1 : 1 ≤ p0 := by omega
          have hp2 : p0 ≤ f.length := by omega
          rw [hp0] at d0
          clear hin hp0
          go_wp2_with (go_at_call 178; refine (within_yes _ _ _ _ (by omega) (by omega)).mono ?_; rintro e w' ⟨rfl, rfl⟩)
          go_loop [9] (fun x => ∃ j : Nat, p0 ≤ j ∧ j ≤ f.length + 1 ∧ x = .int .i64 j ∧ Hid (∀ i, p0 ≤ i → i < j → i ≤ f.length ∧ out.contains (i : Int) = true)) (fun x => f.length + 1 - (intOf x).toNat)
          case atStart => exact ⟨p0, Nat.le_refl _, by omega, by first | rfl | (simp only [HP.out]), fun i h1 h2 => absurd h2 (by omega)⟩
          case round =>
            obtain ⟨j, hj0, hj1, rfl, HJ⟩ := hrel
            by_cases hjn : j ≤ f.length
            · have hjl : j < (tkL out (f.length + 1)).length := by rw [tkL_len]; omega
              have d1 := htk.cellAt j hjl
              rw [tkL_get] at d1
              by_cases hin : out.contains (j : Int) = true
              · have HI := Lib.hid hin
                rw [hin] at d1
                clear hin
                go_wp2_with fail
                go_round
                case rel =>
                  refine ⟨j + 1, by omega, by omega, by go_num, fun i h1 h2 => ?_⟩
                  rcases Nat.lt_or_ge i j with h | h
                  · exact HJ.out i h1 h
                  · obtain rfl : i = j := by omega
                    exact ⟨hjn, HI.out⟩
                case measure => simp [intOf]; omega
              · have hin' : out.contains (j : Int) = false := by simpa using hin
                have HI := Lib.hid hin
                have HK := Lib.hid (park_hit hlt HPK.out (nf_is out f.length (j - p0) (f.length + 1) f[k].toNat j (by rw [HP.out]; omega) (by omega) (fun i h1 h2 => HJ.out i (by rw [HP.out] at h1; omega) h2) (fun h => HI.out h.2)) hjn)
                rw [hin'] at d1
                clear hin hin'
                have d2 := htk.frozenAt j
                have htk2 := (htk.stored j true).1
                have hown2 := hown.other (u := .slice (some ⟨TB, 0, none⟩) 0 0) (htk.stored j true).2 (fun g hg e => by injection e with e; exact hap g hg (by show some TB = some g; rw [show TB = g from e]))
                have hB2 : Below w.heap.size w (wr.setCell ⟨TB, j, none⟩ (.bool true)) := hB.setCell hTB _
                have hsz2 : w.heap.size ≤ (wr.setCell ⟨TB, j, none⟩ (.bool true)).heap.size := by simpa using hsz
                have hlen : out.length < 1099511627776 := by have := HOL.out; omega
                go_wp2_with (at_builtin; refine wpList_appI _ rfl _ _ rfl w.heap.size _ _ rfl hown2 _ rfl (by simp) hlen hsz2 ?_)
                intro v' w2 hown3 hg3 hat3
                have hB3 := below_of_own hB2 hg3 hsz2 (fun g hg => (hown2.lt g hg).1)
                have R := htk2.after_app hap hg3 hat3
                have HR := Lib.hid R
                clear R hown hown2 htk htk2
                go_wp2_with fail
                go_roundw
                case rel =>
                  refine ⟨k + 1, out ++ [(j : Int)], by omega, by rw [List.length_append, HOL.out]; rfl, by go_num, HK.out, hown3, ?_, hB3, ?_⟩
                  · rw [tkL_set]
                    exact HR.out.1
                  · intro j' hj'
                    rcases Nat.lt_or_ge j' k with h | h
                    · exact HO.out j' h
                    · obtain rfl : j' = k := by omega
                      exact HCK.out
                case measure => simp [intOf]; omega
            · have HK := Lib.hid (park_full hlt HPK.out (nf_is out f.length (j - p0) (f.length + 1) f[k].toNat j (by rw [HP.out]; omega) (by omega) (fun i h1 h2 => HJ.out i (by rw [HP.out] at h1; omega) h2) (fun h => hjn h.1)) (by omega))
              clear d0
              go_wp2_with fail
              go_ret2
              exact RetIB.mk (placesR_none HK.out) (OwI.empty_ _ _ hsz) (hB.alloc hsz _)
        · have HCK := Lib.hid (show ¬ CarsP f from CarsP.not_at hlt (fun h => hin (h.get hlt)))
          go_wp2_with (go_at_call 178; refine (within_no _ _ _ _ hin).mono ?_; rintro e w' ⟨rfl, rfl⟩)
          go_ret2
          exact RetIB.mk (placesR_bad HCK.out) (OwI.empty_ _ _ hsz) (hB.alloc hsz _)
      · have hke : k = f.length := by omega
        have HV := Lib.hid (show placesR f = (out, true) from placesR_some ⟨hl6, fun j hj => HO.out j (by omega)⟩ (by rw [← hke]; exact HPK.out))
        go_wp2_with fail
        go_ret2
        exact RetIB.mk HV.out hown hB
  · have HV := Lib.hid (placesR_bad (f := f) (fun h => hl6 h.1))
    go_enter Try.func125, Try.ntmps125
    go_wp2_with fail
    go_ret2
    exact RetIB.mk HV.out (OwI.empty_ _ _ (Nat.le_refl _)) ((Below.refl _ _).alloc (Nat.le_refl _) _)
theorem specIsParking_any (v : Value) (f : List Int) (w : World) (hv : RdI w v f) :
    Calls Try.prog 219 #[v] w fun e w' => e = .returned (.bool (placesR f).2) ∧ Below w.heap.size w w' := by
  go_enter Try.func219, Try.ntmps219
  go_wp2_with fail
  refine (specPlacesOf_any _ _ _ hv).mono ?_; rintro e w1 ⟨r, rfl, o1, b1⟩
  go_wp2_with fail
  go_ret
  exact ⟨rfl, b1⟩
theorem implIsParking_any (v : Value) (f : List Int) (w : World) (hv : RdI w v f) :
    Calls Try.prog 127 #[v] w fun e w' => e = .returned (.bool (placesR f).2) ∧ Below w.heap.size w w' := by
  go_enter Try.func127, Try.ntmps127
  go_wp2_with fail
  refine (implPlacesOf_any _ _ _ hv).mono ?_; rintro e w1 ⟨r, rfl, o1, b1⟩
  go_wp2_with fail
  go_ret
  exact ⟨rfl, b1⟩
end Go.Proofs.Ytnkkgfeegaiakaa
