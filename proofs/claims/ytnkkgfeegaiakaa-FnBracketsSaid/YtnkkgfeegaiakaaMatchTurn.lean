/- Contracts of TurnMatching, the program's and the reference's: both return the same slice and bool. No condition. -/
import Derived.Test.YtnkkgfeegaiakaaMatch
import Derived.Test.YtnkkgfeegaiakaaGround
import Derived.RegionTactic
import Derived.BigRegion
namespace Go.Proofs.Ytnkkgfeegaiakaa
open Go.RowKit
set_option maxHeartbeats 1000000 in
theorem specTurnMatching_any (v : Value) (m : List Int) (t : Int) (w : World) (hv : RdI w v m) (_ht : I64 t) :
    Calls Try.prog 33 #[v, .int .i64 t] w (RetIB w (turnR m t)) := by
  have hv0 := hv
  obtain ⟨A, c, rfl, hc, hl, _⟩ := hv
  rcases Nat.lt_or_ge 1 m.length with h1l | h1l
  all_goals
   by_cases hp : MatchP m
   · have hl16 := hp.1
     by_cases hin : 0 ≤ t ∧ t ≤ max 0 ((m.length : Int) - 1)
     · have HV := Lib.hid (show turnR m t = (turnL m t m.length, true) by unfold turnR; rw [if_pos ⟨hp, hin⟩])
       obtain ⟨ht0, ht1⟩ := hin
       have ht2 : t ≤ 0 ∨ t ≤ (m.length : Int) - 1 := by omega
       have HM := Lib.hid ht1
       have ht3 : t ≤ (m.length : Int) := by omega
       go_enter Try.func33, Try.ntmps33
       go_wp2_with fail
       refine (to_below (specIsMatching_any _ _ _ hv0)).mono ?_; rintro e w1 ⟨rfl, b1⟩
       have hsz := b1.size
       go_wp2_with fail
       refine (l1In_yes _ _ _ _ ht0 ?hb).mono ?_
       case hb => have := HM.out; omega
       rintro e w' ⟨rfl, rfl⟩
       go_wp2_with (at_make; refine wpList_makeI _ rfl _ _ rfl _ _ _ _ m.length rfl rfl rfl rfl (by omega) ?_)
       intro w2 hown b2
       go_wp2_with fail
       have hB0 := below_then b1 b2
       generalize w1.heap.size = OB at hown hsz ⊢
       clear b2
       go_loopw [8] (fun i wr => ∃ k : Nat, k ≤ m.length ∧ i = .int .i64 k ∧ OwI wr w.heap.size (.slice (some ⟨OB, 0, none⟩) m.length m.length) (turnL m t k) ∧ Below w.heap.size w wr) (fun i _ => m.length - (intOf i).toNat)
       case atStart => exact ⟨0, by omega, rfl, hown.mono hsz, hB0⟩
       case round =>
         clear hown hB0
         obtain ⟨k, hk, rfl, hown, hB⟩ := hrel
         by_cases hlt : k < m.length
         · obtain ⟨b, o, rfl, hb, hcl⟩ := (hv0.below hB).at_ (by omega)
           have c1 := hcl k hlt
           clear hcl
           have hr := (hp.2 k hlt).get hlt
           have hr0 := hr.1
           have hr1 : m[k] < m.length := by obtain ⟨_, _, h1, _⟩ := hr; omega
           clear hr
           have hx0 : 0 ≤ ((k : Int) - t + m.length) % m.length := Int.emod_nonneg _ (by omega)
           have hx1 : ((k : Int) - t + m.length) % m.length < m.length := Int.emod_lt_of_pos _ (by omega)
           have hy0 : 0 ≤ (m[k] - t + m.length) % m.length := Int.emod_nonneg _ (by omega)
           have hy1 : (m[k] - t + m.length) % m.length < m.length := Int.emod_lt_of_pos _ (by omega)
           have HTL := Lib.hid (show turnL m t (k + 1) = _ from turnL_succ m t k)
           have hgd : m.getD k 0 = m[k] := getD_of hlt 0
           rw [hgd] at HTL
           clear hgd
           have e1 : IntKind.i64.wrap ((k : Int) - t) = (k : Int) - t := IntWalk.i64_in _ (by omega)
           have e2 : IntKind.i64.wrap ((k : Int) - t + m.length) = (k : Int) - t + m.length := IntWalk.i64_in _ (by omega)
           have e3 : ((k : Int) - t + m.length).tmod m.length = ((k : Int) - t + m.length) % m.length := Int.tmod_eq_emod_of_nonneg (by omega)
           have e4 : IntKind.i64.wrap (m[k] - t) = m[k] - t := IntWalk.i64_in _ (by omega)
           have e5 : IntKind.i64.wrap (m[k] - t + m.length) = m[k] - t + m.length := IntWalk.i64_in _ (by omega)
           have e6 : (m[k] - t + m.length).tmod m.length = (m[k] - t + m.length) % m.length := Int.tmod_eq_emod_of_nonneg (by omega)
           generalize hX : ((k : Int) - t + m.length) % m.length = X at hx0 hx1 e3 HTL
           generalize hY : (m[k] - t + m.length) % m.length = Y at hy0 hy1 e6 HTL
           have HX := Lib.hid hX
           have HY := Lib.hid hY
           clear hX hY
           obtain ⟨x, rfl⟩ := Int.eq_ofNat_of_zero_le hx0
           have e7 : IntKind.i64.wrap (x : Int) = (x : Int) := IntWalk.i64_in _ (by omega)
           have e8 : IntKind.i64.wrap Y = Y := IntWalk.i64_in _ (by omega)
           have hxl : x < (turnL m t k).length := by rw [turnL_len]; omega
           have c2 := hown.cellAt x hxl
           have c3 := hown.frozenAt x
           have HR := Lib.hid (hown.stored x Y)
           have hxm : x < m.length := by omega
           have hne : ((m.length : Int) == 0) = false := beq_eq_false_iff_ne.2 (by omega)
           clear hx0 hx1
           rw [Int.toNat_natCast] at HTL
           go_wp2_with fail
           go_region
           all_goals
             go_wp2_with fail
             go_roundw
             case rel => exact ⟨k + 1, by omega, by go_num, OwI.drewN (by rw [HTL.out]; exact HR.out.1) 1, below_drewN (hB.setCell hsz _) 1⟩
             case measure => simp [intOf]; omega
         · have hke : k = m.length := by omega
           go_wp2_with fail
           go_ret2
           subst hke
           exact RetIB.mk HV.out hown hB
     · have HV := Lib.hid (show turnR m t = ([], false) by unfold turnR; rw [if_neg (fun h => hin h.2)])
       go_enter Try.func33, Try.ntmps33
       go_wp2_with fail
       refine (to_below (specIsMatching_any _ _ _ hv0)).mono ?_; rintro e w1 ⟨rfl, b1⟩
       go_wp2_with fail
       refine (l1In_no _ _ _ _ ?hb).mono ?_
       case hb => exact fun h => hin ⟨h.1, by omega⟩
       rintro e w' ⟨rfl, rfl⟩
       go_wp2_with fail
       go_ret2
       exact RetIB.mk HV.out (OwI.empty_ _ _ b1.size) (b1.alloc b1.size _)
   · have HV := Lib.hid (show turnR m t = ([], false) by unfold turnR; rw [if_neg (fun h => hp h.1)])
     go_enter Try.func33, Try.ntmps33
     go_wp2_with fail
     refine (to_below (specIsMatching_any _ _ _ hv0)).mono ?_; rintro e w1 ⟨rfl, b1⟩
     go_wp2_with fail
     go_ret2
     exact RetIB.mk HV.out (OwI.empty_ _ _ b1.size) (b1.alloc b1.size _)
set_option maxHeartbeats 1000000 in
theorem implTurnMatching_any (v : Value) (m : List Int) (t : Int) (w : World) (hv : RdI w v m) (_ht : I64 t) :
    Calls Try.prog 111 #[v, .int .i64 t] w (RetIB w (turnR m t)) := by
  have hv0 := hv
  obtain ⟨A, c, rfl, hc, hl, _⟩ := hv
  rcases Nat.lt_or_ge 1 m.length with h1l | h1l
  all_goals
   by_cases hp : MatchP m
   · have hl16 := hp.1
     by_cases hin : 0 ≤ t ∧ t ≤ max 0 ((m.length : Int) - 1)
     · have HV := Lib.hid (show turnR m t = (turnL m t m.length, true) by unfold turnR; rw [if_pos ⟨hp, hin⟩])
       obtain ⟨ht0, ht1⟩ := hin
       have ht2 : t ≤ 0 ∨ t ≤ (m.length : Int) - 1 := by omega
       have HM := Lib.hid ht1
       have ht3 : t ≤ (m.length : Int) := by omega
       go_enter Try.func111, Try.ntmps111
       go_wp2_with fail
       refine (to_below (implIsMatching_any _ _ _ hv0)).mono ?_; rintro e w1 ⟨rfl, b1⟩
       have hsz := b1.size
       go_wp2_with fail
       refine (within_yes _ _ _ _ ht0 ?hb).mono ?_
       case hb => have := HM.out; omega
       rintro e w' ⟨rfl, rfl⟩
       go_wp2_with (at_make; refine wpList_makeI _ rfl _ _ rfl _ _ _ _ m.length rfl rfl rfl rfl (by omega) ?_)
       intro w2 hown b2
       go_wp2_with fail
       have hB0 := below_then b1 b2
       generalize w1.heap.size = OB at hown hsz ⊢
       clear b2
       go_loopw [29] (fun i wr => ∃ k : Nat, k ≤ m.length ∧ i = .int .i64 k ∧ OwI wr w.heap.size (.slice (some ⟨OB, 0, none⟩) m.length m.length) (turnL m t k) ∧ Below w.heap.size w wr) (fun i _ => m.length - (intOf i).toNat)
       case atStart => exact ⟨0, by omega, rfl, hown.mono hsz, hB0⟩
       case round =>
         clear hown hB0
         obtain ⟨k, hk, rfl, hown, hB⟩ := hrel
         by_cases hlt : k < m.length
         · obtain ⟨b, o, rfl, hb, hcl⟩ := (hv0.below hB).at_ (by omega)
           have c1 := hcl k hlt
           clear hcl
           have hr := (hp.2 k hlt).get hlt
           have hr0 := hr.1
           have hr1 : m[k] < m.length := by obtain ⟨_, _, h1, _⟩ := hr; omega
           clear hr
           have hx0 : 0 ≤ ((k : Int) - t + m.length) % m.length := Int.emod_nonneg _ (by omega)
           have hx1 : ((k : Int) - t + m.length) % m.length < m.length := Int.emod_lt_of_pos _ (by omega)
           have hy0 : 0 ≤ (m[k] - t + m.length) % m.length := Int.emod_nonneg _ (by omega)
           have hy1 : (m[k] - t + m.length) % m.length < m.length := Int.emod_lt_of_pos _ (by omega)
           have HTL := Lib.hid (show turnL m t (k + 1) = _ from turnL_succ m t k)
           have hgd : m.getD k 0 = m[k] := getD_of hlt 0
           rw [hgd] at HTL
           clear hgd
           have e1 : IntKind.i64.wrap ((k : Int) - t) = (k : Int) - t := IntWalk.i64_in _ (by omega)
           have e2 : IntKind.i64.wrap ((k : Int) - t + m.length) = (k : Int) - t + m.length := IntWalk.i64_in _ (by omega)
           have e3 : ((k : Int) - t + m.length).tmod m.length = ((k : Int) - t + m.length) % m.length := Int.tmod_eq_emod_of_nonneg (by omega)
           have e4 : IntKind.i64.wrap (m[k] - t) = m[k] - t := IntWalk.i64_in _ (by omega)
           have e5 : IntKind.i64.wrap (m[k] - t + m.length) = m[k] - t + m.length := IntWalk.i64_in _ (by omega)
           have e6 : (m[k] - t + m.length).tmod m.length = (m[k] - t + m.length) % m.length := Int.tmod_eq_emod_of_nonneg (by omega)
           generalize hX : ((k : Int) - t + m.length) % m.length = X at hx0 hx1 e3 HTL
           generalize hY : (m[k] - t + m.length) % m.length = Y at hy0 hy1 e6 HTL
           have HX := Lib.hid hX
           have HY := Lib.hid hY
           clear hX hY
           obtain ⟨x, rfl⟩ := Int.eq_ofNat_of_zero_le hx0
           have e7 : IntKind.i64.wrap (x : Int) = (x : Int) := IntWalk.i64_in _ (by omega)
           have e8 : IntKind.i64.wrap Y = Y := IntWalk.i64_in _ (by omega)
           have hxl : x < (turnL m t k).length := by rw [turnL_len]; omega
           have c2 := hown.cellAt x hxl
           have c3 := hown.frozenAt x
           have HR := Lib.hid (hown.stored x Y)
           have hxm : x < m.length := by omega
           have hne : ((m.length : Int) == 0) = false := beq_eq_false_iff_ne.2 (by omega)
           clear hx0 hx1
           rw [Int.toNat_natCast] at HTL
           go_wp2_with fail
           go_region
           all_goals
             go_wp2_with fail
             go_roundw
             case rel => exact ⟨k + 1, by omega, by go_num, OwI.drewN (by rw [HTL.out]; exact HR.out.1) 1, below_drewN (hB.setCell hsz _) 1⟩
             case measure => simp [intOf]; omega
         · have hke : k = m.length := by omega
           go_wp2_with fail
           go_ret2
           subst hke
           exact RetIB.mk HV.out hown hB
     · have HV := Lib.hid (show turnR m t = ([], false) by unfold turnR; rw [if_neg (fun h => hin h.2)])
       go_enter Try.func111, Try.ntmps111
       go_wp2_with fail
       refine (to_below (implIsMatching_any _ _ _ hv0)).mono ?_; rintro e w1 ⟨rfl, b1⟩
       go_wp2_with fail
       refine (within_no _ _ _ _ ?hb).mono ?_
       case hb => exact fun h => hin ⟨h.1, by omega⟩
       rintro e w' ⟨rfl, rfl⟩
       go_wp2_with fail
       go_ret2
       exact RetIB.mk HV.out (OwI.empty_ _ _ b1.size) (b1.alloc b1.size _)
   · have HV := Lib.hid (show turnR m t = ([], false) by unfold turnR; rw [if_neg (fun h => hp h.1)])
     go_enter Try.func111, Try.ntmps111
     go_wp2_with fail
     refine (to_below (implIsMatching_any _ _ _ hv0)).mono ?_; rintro e w1 ⟨rfl, b1⟩
     go_wp2_with fail
     go_ret2
     exact RetIB.mk HV.out (OwI.empty_ _ _ b1.size) (b1.alloc b1.size _)
end Go.Proofs.Ytnkkgfeegaiakaa
