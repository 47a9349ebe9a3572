/- Contract of the program's ChildrenOf at a list of parents that IsPlane holds for (given as IsPlane's contract). -/
import Derived.Test.YtngfkajfbgfncaaGround
namespace Go.Proofs.Ytngfkajfbgfncaa
open Go.RowKit
set_option maxHeartbeats 1000000 in
theorem implChildrenOf_any (v : Value) (p : List Int) (c : Nat) (w : World) (hv : RdI w v p) (hl : p.length ≤ 20)
    (HP : ∀ wq, Below w.heap.size w wq → Calls Try.prog 272 #[v] wq fun e w' => e = .returned (.bool true) ∧ Below wq.heap.size wq w') :
    Calls Try.prog 273 #[v, .int .i64 c] w (RetI w (chN p (c : Int) p.length)) := by
  have own0 := OwI.empty_ w w.heap.size (Nat.le_refl _)
  have hB0 : Below w.heap.size w (w.alloc (.cells #[] 3)) := (Below.refl _ _).alloc (Nat.le_refl _) _
  have HC := Lib.hid (HP _ hB0)
  have hv0 := hv.below hB0
  have HV := Lib.hid hv
  clear HP hv
  go_enter Try.func273, Try.ntmps273
  go_wp2_with fail
  generalize w.alloc (.cells #[] 3) = w2 at own0 hB0 hv0 HC ⊢
  refine HC.out.mono ?_; rintro e w3 ⟨rfl, b3⟩
  have own3 := own0.below b3
  have hv3 := hv0.below b3
  have hB3 := below_then hB0 b3
  clear own0 hv0 hB0 b3 HC
  obtain ⟨A, cap, rfl, hcap, _, hA⟩ := id hv3
  have hc0 : (0 : Int) ≤ (c : Int) := by omega
  go_wp2_with fail
  go_loopw [5, 19] (fun x i wr => ∃ k : Nat, k ≤ p.length ∧ i = .int .i64 k ∧ OwI wr w.heap.size x (chN p (c : Int) k) ∧ Below w.heap.size w wr) (fun _ i _ => p.length - (intOf i).toNat)
  case atStart => exact ⟨0, by omega, rfl, own3, hB3⟩
  case round =>
    clear own3 hB3 hv3 hA
    obtain ⟨k, hk, rfl, hown, hB⟩ := hrel
    have hv := HV.out.below hB
    have hsz := hB.size
    by_cases hlt : k < p.length
    · obtain ⟨A', c', e', _, _, hA⟩ := id hv
      injection e' with eA _ ec
      subst eA; subst ec
      obtain ⟨bl, o, rfl, hbl, hcl⟩ := hA (by omega)
      have c1 := hcl k hlt
      have hlen : (chN p (c : Int) k).length < 1099511627776 := by have := chN_len p (c : Int) k; omega
      by_cases hq : p[k] = (c : Int)
      · have f1 : (p[k] == (c : Int)) = true := beq_iff_eq.2 hq
        have HS := Lib.hid (chN_hit hlt hq)
        clear hq
        go_wp2_with (at_builtin; refine wpList_appI _ rfl _ _ rfl w.heap.size _ _ rfl hown _ rfl rfl hlen hsz ?_)
        intro v' w1 hown1 hg1 hat1
        have hB1 := below_of_own hB hg1 hsz (fun g hg => (hown.lt g hg).1)
        clear hown hg1 hat1
        go_wp2_with fail
        go_roundw
        case rel => exact ⟨k + 1, by omega, by go_num, by rw [HS.out]; exact hown1, hB1⟩
        case measure => simp [intOf]; omega
      · have f1 : (p[k] == (c : Int)) = false := beq_eq_false_iff_ne.2 hq
        have HS := Lib.hid (chN_miss hlt hq)
        clear hq
        go_wp2_with fail
        go_roundw
        case rel => exact ⟨k + 1, by omega, by go_num, by rw [HS.out]; exact hown, hB⟩
        case measure => simp [intOf]; omega
    · have hke : k = p.length := by omega
      subst hke
      go_wp2_with fail
      go_ret
      exact ⟨_, rfl, hown, hB⟩
set_option maxHeartbeats 1000000 in
theorem specChildrenOf_any (v : Value) (p : List Int) (c : Nat) (w : World) (hv : RdI w v p) (hl : p.length ≤ 20) (h0 : 0 < p.length) (h1 : p[0] = -1)
    (HP : ∀ wq, Below w.heap.size w wq → Calls Try.prog 269 #[v] wq fun e w' => e = .returned (.bool true) ∧ wq = w') :
    Calls Try.prog 270 #[v, .int .i64 c] w (RetI w (chN p (c : Int) p.length)) := by
  have own0 := OwI.empty_ w w.heap.size (Nat.le_refl _)
  have hB0 : Below w.heap.size w (w.alloc (.cells #[] 3)) := (Below.refl _ _).alloc (Nat.le_refl _) _
  have HC := Lib.hid HP
  have HV := Lib.hid hv
  have H1 := Lib.hid (chN_one h0 (show ¬ p[0] = (c : Int) by rw [h1]; omega))
  obtain ⟨A, cap, rfl, hcap, _, hA⟩ := hv
  clear HP hA h1
  have hc0 : (0 : Int) ≤ (c : Int) := by omega
  go_enter Try.func270, Try.ntmps270
  go_wp2_with fail
  generalize w.alloc (.cells #[] 3) = w2 at own0 hB0 ⊢
  go_loopw [5, 6] (fun x i wr => ∃ k : Nat, 1 ≤ k ∧ k ≤ p.length ∧ i = .int .i64 k ∧ OwI wr w.heap.size x (chN p (c : Int) k) ∧ Below w.heap.size w wr) (fun _ i _ => p.length - (intOf i).toNat)
  case atStart => exact ⟨1, by omega, by omega, rfl, by rw [H1.out]; exact own0, hB0⟩
  case round =>
    clear own0 hB0
    obtain ⟨k, hk1, hk, rfl, hown, hB⟩ := hrel
    have hv := HV.out.below hB
    have hsz := hB.size
    have HCk := Lib.hid (HC.out _ hB)
    by_cases hlt : k < p.length
    · obtain ⟨A', c', e', _, _, hA⟩ := id hv
      injection e' with eA _ ec
      subst eA; subst ec
      obtain ⟨bl, o, rfl, hbl, hcl⟩ := hA (by omega)
      have c1 := hcl k hlt
      have hlen : (chN p (c : Int) k).length < 1099511627776 := by have := chN_len p (c : Int) k; omega
      by_cases hq : p[k] = (c : Int)
      · have f1 : (p[k] == (c : Int)) = true := beq_iff_eq.2 hq
        have HS := Lib.hid (chN_hit hlt hq)
        clear hq
        go_wp2_with (first | (go_at_call 269; refine HCk.out.mono ?_; rintro e w' ⟨rfl, rfl⟩) | (at_builtin; refine wpList_appI _ rfl _ _ rfl w.heap.size _ _ rfl hown _ rfl rfl hlen hsz ?_))
        intro v' w1 hown1 hg1 hat1
        have hB1 := below_of_own hB hg1 hsz (fun g hg => (hown.lt g hg).1)
        clear hown hg1 hat1
        go_wp2_with fail
        go_roundw
        case rel => exact ⟨k + 1, by omega, by omega, by go_num, by rw [HS.out]; exact hown1, hB1⟩
        case measure => simp [intOf]; omega
      · have f1 : (p[k] == (c : Int)) = false := beq_eq_false_iff_ne.2 hq
        have HS := Lib.hid (chN_miss hlt hq)
        clear hq
        go_wp2_with (go_at_call 269; refine HCk.out.mono ?_; rintro e w' ⟨rfl, rfl⟩)
        go_roundw
        case rel => exact ⟨k + 1, by omega, by omega, by go_num, by rw [HS.out]; exact hown, hB⟩
        case measure => simp [intOf]; omega
    · have hke : k = p.length := by omega
      subst hke
      go_wp2_with (go_at_call 269; refine HCk.out.mono ?_; rintro e w' ⟨rfl, rfl⟩)
      go_ret
      exact ⟨_, rfl, hown, hB⟩
end Go.Proofs.Ytngfkajfbgfncaa
