/- Contracts of PartitionOf, the program's and the reference's: both return the same slice and bool. No condition but the word's size. -/
import Derived.Test.YtnkkgfeegaiakaaMatchOf
import Derived.Test.YtnkkgfeegaiakaaRenum
import Derived.Test.YtnkkgfeegaiakaaPlain19
namespace Go.Proofs.Ytnkkgfeegaiakaa
open Go.RowKit
set_option maxHeartbeats 1600000 in
theorem specPartitionOf_any (s : ByteArray) (w : World) (hs : s.size ≤ 1099511627776) :
    Calls Try.prog 85 #[.string s] w (RetIB w (parR (L s))) := by
  by_cases hp : DyckP (L s)
  · have hl16 := hp.1
    rw [L_len] at hl16
    have HV := Lib.hid (show parR (L s) = (rnL (qoS (L s) s.size).p, true) by unfold parR; rw [if_pos hp, L_len])
    go_enter Try.func85, Try.ntmps85
    go_wp2_with fail
    refine (to_below' (specIsDyck_any s _ hs)).mono ?_; rintro e w1 ⟨rfl, b1⟩
    go_wp2_with (at_make; refine wpList_makeI _ rfl _ _ rfl _ _ _ _ (s.size / 2) rfl rfl (by go_num) (by go_num) (by omega) ?_)
    intro w2 hown b2
    have B2 := below_then b1 b2
    have hsz2 := B2.size
    have own1 : OwI w2 w.heap.size (.slice (some ⟨w1.heap.size, 0, none⟩) (s.size / 2) (s.size / 2)) (List.replicate (s.size / 2) 0) := hown.mono b1.size
    have hap0 : Apart (.slice (some ⟨w1.heap.size, 0, none⟩) (s.size / 2) (s.size / 2)) (.slice (some ⟨w2.heap.size, 0, none⟩) 0 0) := fun g h1 h2 => by
      have := (hown.lt g h1).2
      simp [Value.ownBlock] at h2; omega
    clear hown b2
    go_wp2_with fail
    have own2 := OwI.empty_ w2 w.heap.size hsz2
    have own1 := OwI.below own1 ((Below.refl _ _).alloc (Nat.le_refl _) (.cells #[] 3))
    have B3 : Below w.heap.size w (w2.alloc (.cells #[] 3)) := B2.alloc hsz2 _
    generalize w2.alloc (.cells #[] 3) = w3 at own1 own2 B3 ⊢
    have hw1s : w.heap.size ≤ w1.heap.size := b1.size
    go_loopw [5, 6, 7, 8] (fun vs n kk i wr => ∃ (k : Nat) (t : PoS) (pt : PtS), k ≤ s.size ∧ i = .int .i64 k ∧ n = .int .i64 (t.n : Int) ∧ kk = .int .i64 (t.k : Int) ∧ OwI wr w.heap.size (.slice (some ⟨w1.heap.size, 0, none⟩) (s.size / 2) (s.size / 2)) t.p ∧ OwI wr w.heap.size vs t.st ∧ Apart (.slice (some ⟨w1.heap.size, 0, none⟩) (s.size / 2) (s.size / 2)) vs ∧ Hid (QInv (L s) k t pt) ∧ Below w.heap.size w wr) (fun _ _ _ i _ => s.size - (intOf i).toNat)
    case atStart => exact ⟨0, _, _, by omega, rfl, rfl, rfl, own1, own2, hap0, by have := QInv.start (L s); rw [L_len] at this; exact this, B3⟩
    case round =>
      clear own1 own2 hap0 B3 B2 hsz2
      obtain ⟨k, t, pt, hk, rfl, rfl, rfl, hpp, hst, hap, HI, hB⟩ := hrel
      have hsz := hB.size
      have htk : t.k ≤ 16 := by
        have h1 := HI.out.nx
        have h2 := pkN_le (L s) k
        omega
      have htn : t.n ≤ 16 := by
        have h1 := HI.out.cn
        have h2 := cu_take_le (L s) k
        have h3 := dyck_half hp
        rw [L_len] at h3
        omega
      by_cases hlt : k < s.size
      · have hlL : k < (L s).length := by rw [L_len]; exact hlt
        have hg : (L s)[k] = s[k] := L_get s k hlt
        by_cases hu : s[k].toNat = 117
        · have f1 : (((s[k].toNat : Nat) : Int) == 117) = true := by simp; omega
          have HN := Lib.hid (HI.out.up_ hp hlL (by rw [hg]; exact hu))
          have hlen : t.st.length < 1099511627776 := by
            have h0 := HI.out.pi.ht
            have h2 := hN_le (L s) hp k (by omega)
            have h3 : t.st.length = pt.st.length := by rw [HI.out.st, List.length_map]
            omega
          clear hu
          go_wp2_with (at_builtin; refine wpList_appI _ rfl _ _ rfl w.heap.size _ _ rfl hst _ rfl rfl hlen hsz ?_)
          intro v' w4 hst4 hg4 hat4
          have hB4 := below_of_own hB hg4 hsz (fun g hg => (hst.lt g hg).1)
          have R := (OwI_is.1 hpp).after_app hap.symm hg4 hat4
          have HR := Lib.hid R
          clear R hst hpp hap hg4 hat4
          go_wp2_with fail
          go_roundw
          case rel => exact ⟨k + 1, ⟨t.p, t.st ++ [(t.n : Int)], t.n + 1, t.k⟩, _, by omega, by go_num, by go_num, rfl, HR.out.1, hst4, HR.out.2.symm, HN.out, hB4⟩
          case measure => simp [intOf]; omega
        · have f1 : (((s[k].toNat : Nat) : Int) == 117) = false := by simp; omega
          have hu' : ¬ (L s)[k].toNat = 117 := by rw [hg]; exact hu
          obtain ⟨ys, j, hys, hj, ha⟩ := HI.out.pi.top hp hlL hu'
          have hN := HI.out.down_ hp hlL hu' hys hj ha
          obtain ⟨hjl, hju⟩ := ha.left hp
          have hxn : cu ((L s).take j) < s.size / 2 := by
            have h1 := cu_lt (l := L s) hjl (Nat.le_refl _) hju
            have h2 := dyck_half hp
            rw [List.take_length] at h1
            rw [L_len] at h2
            omega
          have hst0 := HI.out.st
          rw [hys, List.map_append, List.map_cons, List.map_nil, Int.toNat_natCast] at hst0
          obtain ⟨zs, hzs⟩ : ∃ zs, zs = ys.map fun j => ((cu ((L s).take j.toNat) : Nat) : Int) := ⟨_, rfl⟩
          rw [← hzs] at hst0
          have hdl : t.st.dropLast = zs := by rw [hst0]; simp
          rw [hdl] at hN
          have hplen := HI.out.len
          rw [L_len] at hplen
          obtain ⟨xn, hxe⟩ : ∃ xn, xn = cu ((L s).take j) := ⟨_, rfl⟩
          rw [← hxe] at hN hxn hst0
          have HN := Lib.hid hN
          have hxl : xn < t.p.length := by omega
          rw [hst0] at hst
          obtain ⟨g, cap, rfl, hgb, hgs, hcx, hcap, hst2⟩ := OwR.pop (OwI_is.1 hst)
          have c1 := hcx
          have c2 := hpp.cellAt _ hxl
          have c3 := hpp.frozenAt xn
          have hs5 := hpp.stored xn (t.k : Int)
          have hap2 : Apart (.slice (some ⟨w1.heap.size, 0, none⟩) (s.size / 2) (s.size / 2)) (.slice (some ⟨g, 0, none⟩) zs.length cap) := fun j h1 h2 => hap j h1 h2
          have hst5 := hst2.other (u := .slice (some ⟨w1.heap.size, 0, none⟩) (s.size / 2) (s.size / 2)) hs5.2 hap2.symm
          have HS := Lib.hid hs5
          have hyc : zs.length ≤ cap := by omega
          have hyb : zs.length ≤ 1099511627776 := by have := hst.2; simp at this; omega
          clear hu hu' hys hs5 hcx hst0 hzs hdl hxe hN hju ha
          by_cases hke : k + 1 = s.size
          · have f2 : ((k : Int) + 1 == (s.size : Int)) = true := by simp; omega
            have HC := Lib.hid (show (if k + 1 = (L s).length ∨ isU (L s) (k + 1) = true then t.k + 1 else t.k) = t.k + 1 from if_pos (.inl (by rw [L_len]; exact hke)))
            have hkle : k + 1 ≤ s.size := by omega
            clear hke
            go_wp2_with fail
            go_roundw
            case rel => exact ⟨k + 1, ⟨t.p.set xn (t.k : Int), zs, t.n, t.k + 1⟩, _, hkle, by go_num, rfl, by go_num, HS.out.1, hst5, hap2, by have := HN.out; rw [HC.out] at this; exact this, hB.setCell hw1s _⟩
            case measure => simp [intOf]; omega
          · have f2 : ((k : Int) + 1 == (s.size : Int)) = false := by simp; omega
            have hk1 : k + 1 < s.size := by omega
            have hk1i : (k : Int) + 1 < (s.size : Int) := by omega
            have hk1c : ((k : Int) + 1) = ((k + 1 : Nat) : Int) := by omega
            by_cases hu1 : s[k + 1].toNat = 117
            · have f3 : (((s[k + 1].toNat : Nat) : Int) == 117) = true := by simp; omega
              have HC := Lib.hid (show (if k + 1 = (L s).length ∨ isU (L s) (k + 1) = true then t.k + 1 else t.k) = t.k + 1 from if_pos (.inr (isU_of (l := L s) (by rw [L_len]; exact hk1) hu1)))
              clear hke hu1 hk1c
              go_wp2_with fail
              go_roundw
              case rel => exact ⟨k + 1, ⟨t.p.set xn (t.k : Int), zs, t.n, t.k + 1⟩, _, by omega, by go_num, rfl, by go_num, HS.out.1, hst5, hap2, by have := HN.out; rw [HC.out] at this; exact this, hB.setCell hw1s _⟩
              case measure => simp [intOf]; omega
            · have f3 : (((s[k + 1].toNat : Nat) : Int) == 117) = false := by simp; omega
              have HC := Lib.hid (show (if k + 1 = (L s).length ∨ isU (L s) (k + 1) = true then t.k + 1 else t.k) = t.k from if_neg (by rw [L_len, isU_not (l := L s) (by rw [L_len]; exact hk1) hu1]; simp; omega))
              clear hke hu1 hk1c
              go_wp2_with fail
              go_roundw
              case rel => exact ⟨k + 1, ⟨t.p.set xn (t.k : Int), zs, t.n, t.k⟩, _, by omega, by go_num, rfl, by go_num, HS.out.1, hst5, hap2, by have := HN.out; rw [HC.out] at this; exact this, hB.setCell hw1s _⟩
              case measure => simp [intOf]; omega
      · have hke : k = s.size := by omega
        have hpl := HI.out.len
        rw [L_len] at hpl
        have HE := Lib.hid (show parR (L s) = (rnL t.p, true) by rw [HV.out, ← hke, HI.out.is])
        go_wp2_with fail
        refine (l8Renumber_any _ _ _ hpp.rd (by omega)).mono ?_; rintro e w5 ⟨r, rfl, o5, b5⟩
        go_wp2_with fail
        go_ret2
        exact RetIB.mk HE.out (o5.mono hsz) (below_then hB b5)
  · have HV := Lib.hid (show parR (L s) = ([], false) by unfold parR; rw [if_neg hp])
    go_enter Try.func85, Try.ntmps85
    go_wp2_with fail
    refine (to_below' (specIsDyck_any s _ hs)).mono ?_; rintro e w1 ⟨rfl, b1⟩
    go_wp2_with fail
    go_ret2
    exact RetIB.mk HV.out (OwI.empty_ _ _ b1.size) (b1.alloc b1.size _)
set_option maxHeartbeats 1600000 in
theorem implPartitionOf_any (s : ByteArray) (w : World) (_hs : s.size ≤ 1099511627776) :
    Calls Try.prog 84 #[.string s] w (RetIB w (parR (L s))) := by
  by_cases hp : DyckP (L s)
  · have hl16 := hp.1
    rw [L_len] at hl16
    have HV := Lib.hid (show parR (L s) = rnR (iL (L s) s.size) by unfold parR; rw [if_pos hp, ← parR_impl hp, L_len])
    have HD := Lib.hid hp
    have HP0 := implIsDyck_any s w
    simp only [decide_eq_true hp] at HP0
    have HPL := Lib.hid (prt_len hp)
    clear hp
    go_enter Try.func84, Try.ntmps84
    go_wp2_with fail
    refine HP0.mono ?_; rintro e w1 ⟨rfl, b1⟩
    go_wp2_with fail
    refine (partners_any s _ HD.out).mono ?_; rintro e w2 ⟨pr, rfl, o2, b2⟩
    have B2 := below_then b1 b2
    have hrd2 := o2.rd
    have hsz2 := B2.size
    clear b1 b2 o2 HP0
    go_wp2_with (at_make; refine wpList_makeI _ rfl _ _ rfl _ _ _ _ s.size rfl rfl rfl rfl (by omega) ?_)
    intro w3 hown b3
    have B3 := below_then B2 b3
    have own3 : OwI w3 w2.heap.size (.slice (some ⟨w2.heap.size, 0, none⟩) s.size s.size) (rl (L s) 1) := by rw [rl_one, L_len]; exact hown
    clear hown
    go_wp2_with fail
    go_loopw [6, 7] (fun n i wr => ∃ k : Nat, 1 ≤ k ∧ (k ≤ s.size ∨ k = 1) ∧ i = .int .i64 k ∧ n = .int .i64 ((pkN (L s) k : Nat) : Int) ∧ OwI wr w2.heap.size (.slice (some ⟨w2.heap.size, 0, none⟩) s.size s.size) (rl (L s) k) ∧ Below w.heap.size w wr ∧ Below w2.heap.size w2 wr) (fun _ i _ => s.size + 1 - (intOf i).toNat)
    case atStart => exact ⟨1, by omega, by omega, rfl, by rw [pkN_one]; rfl, own3, B3, b3⟩
    case round =>
      clear own3 B3 b3
      obtain ⟨k, h1, hk, rfl, rfl, hown, hB, hB2⟩ := hrel
      have hk16 : k ≤ 16 := by omega
      have hpk := pkN_le (L s) k
      by_cases hlt : k < s.size
      · have hlL : k < (L s).length := by rw [L_len]; exact hlt
        have HF := Lib.hid (pkB_eq (l := L s) h1 hlL)
        have HPS := Lib.hid (pkN_succ (L s) k)
        have HRS := Lib.hid (rl_set (L s) k)
        have hg : (L s)[k] = s[k] := L_get s k hlt
        have hg1 : (L s)[k - 1] = s[k - 1] := L_get s (k - 1) (by omega)
        rw [hg, hg1] at HF
        have hk1 : ((k : Int) - 1) = ((k - 1 : Nat) : Int) := by omega
        have hlt1 : k - 1 < s.size := by omega
        have hrl : k < (rl (L s) k).length := by rw [rl_len, L_len]; exact hlt
        have c2 := hown.cellAt k hrl
        have c3 := hown.frozenAt k
        clear hg hg1
        by_cases hd : s[k].toNat = 100
        · have f1 : (((s[k].toNat : Nat) : Int) == 100) = true := by simp; omega
          have g1 : ((s[k].toNat : Nat) : Int) = 100 := by omega
          by_cases hu : (s[k - 1]'(by omega)).toNat = 117
          · have f2 : ((((s[k - 1]'(by omega)).toNat : Nat) : Int) == 117) = true := by simp; omega
            have g2 : (((s[k - 1]'(by omega)).toNat : Nat) : Int) = 117 := by omega
            have HE := Lib.hid (show pkN (L s) (k + 1) = pkN (L s) k + 1 by rw [HPS.out, HF.out, decide_eq_true hd, decide_eq_true hu]; rfl)
            have hs5 := hown.stored k (((pkN (L s) k : Nat) : Int) + 1)
            have HS := Lib.hid (show OwI _ _ _ (rl (L s) (k + 1)) from by rw [← HRS.out, HE.out]; exact hs5.1)
            clear hs5 hd hu
            go_wp2_with fail
            go_roundw
            case rel => exact ⟨k + 1, by omega, by omega, by go_num, by rw [HE.out]; go_num, HS.out, hB.setCell hsz2 _, hB2.setCell (Nat.le_refl _) _⟩
            case measure => simp [intOf]; omega
          · have f2 : ((((s[k - 1]'(by omega)).toNat : Nat) : Int) == 117) = false := by simp; omega
            have g2 : ¬ (((s[k - 1]'(by omega)).toNat : Nat) : Int) = 117 := by omega
            have HE := Lib.hid (show pkN (L s) (k + 1) = pkN (L s) k by rw [HPS.out, HF.out, decide_eq_false hu, Bool.and_false]; rfl)
            have hs5 := hown.stored k ((pkN (L s) k : Nat) : Int)
            have HS := Lib.hid (show OwI _ _ _ (rl (L s) (k + 1)) from by rw [← HRS.out, HE.out]; exact hs5.1)
            clear hs5 hd hu
            go_wp2_with fail
            go_roundw
            case rel => exact ⟨k + 1, by omega, by omega, by go_num, by rw [HE.out], HS.out, hB.setCell hsz2 _, hB2.setCell (Nat.le_refl _) _⟩
            case measure => simp [intOf]; omega
        · have f1 : (((s[k].toNat : Nat) : Int) == 100) = false := by simp; omega
          have g1 : ¬ ((s[k].toNat : Nat) : Int) = 100 := by omega
          have HE := Lib.hid (show pkN (L s) (k + 1) = pkN (L s) k by rw [HPS.out, HF.out, decide_eq_false hd, Bool.false_and]; rfl)
          have hs5 := hown.stored k ((pkN (L s) k : Nat) : Int)
          have HS := Lib.hid (show OwI _ _ _ (rl (L s) (k + 1)) from by rw [← HRS.out, HE.out]; exact hs5.1)
          clear hs5 hd
          go_wp2_with fail
          go_roundw
          case rel => exact ⟨k + 1, by omega, by omega, by go_num, by rw [HE.out], HS.out, hB.setCell hsz2 _, hB2.setCell (Nat.le_refl _) _⟩
          case measure => simp [intOf]; omega
      · have hrd := hrd2.below hB2
        have HRC : Hid (∀ x, x < s.size → w2.heap.size < wr.heap.size ∧ wr.cell? ⟨w2.heap.size, x, none⟩ = some (.int .i64 ((pkN (L s) (x + 1) : Nat) : Int))) := fun x hx => by
          refine ⟨(hown.lt _ rfl).2, ?_⟩
          have := hown.cellAt x (by rw [rl_len, L_len]; exact hx)
          rw [rl_get (by rw [L_len]; exact hx) (by omega)] at this
          exact this
        clear hpk hown hB2 hrd2
        have hsz := hB.size
        go_wp2_with fail
        have own0 := OwI.empty_ wr w.heap.size hsz
        have hB0 : Below w.heap.size w (wr.alloc (.cells #[] 3)) := hB.alloc hsz _
        have hBr0 : Below wr.heap.size wr (wr.alloc (.cells #[] 3)) := (Below.refl _ _).alloc (Nat.le_refl _) _
        obtain ⟨sz, hsz0⟩ : ∃ n, n = wr.heap.size := ⟨_, rfl⟩
        have HSZ := Lib.hid hsz0
        have hg0 : ∀ g, (Value.slice (some ⟨wr.heap.size, 0, none⟩) 0 0).ownBlock = some g → sz ≤ g := fun g hg => by injection hg with hg; exact Nat.le_of_eq (hsz0.trans hg)
        clear hsz0
        generalize wr.alloc (.cells #[] 3) = w5 at own0 hB0 hBr0 ⊢
        go_loopw [8, 9] (fun v i w6 => ∃ x : Nat, x ≤ s.size ∧ i = .int .i64 x ∧ OwI w6 w.heap.size v (iL (L s) x) ∧ (∀ g, v.ownBlock = some g → sz ≤ g) ∧ Below w.heap.size w w6 ∧ Below wr.heap.size wr w6) (fun _ i _ => s.size - (intOf i).toNat)
        case atStart => exact ⟨0, by omega, rfl, own0, hg0, hB0, hBr0⟩
        case round =>
          clear own0 hB0 hg0 hBr0
          obtain ⟨x, hx, rfl, hown, hgo, hB6, hBr⟩ := hrel
          have hs6 := hB6.size
          by_cases hxl : x < s.size
          · have hxL : x < (L s).length := by rw [L_len]; exact hxl
            have hg : (L s)[x] = s[x] := L_get s x hxl
            have HIS := Lib.hid (iL_succ (L s) x)
            by_cases hu : s[x].toNat = 117
            · have f1 : (((s[x].toNat : Nat) : Int) == 117) = true := by simp; omega
              obtain ⟨j, hj, hpr⟩ := prt_get HD.out hxL
              have hjl : j < s.size := by
                rcases hpr with h | h
                · have := h.2.1; rw [L_len] at this; exact this
                · have := h.1; omega
              have HN := Lib.hid (show iL (L s) (x + 1) = iL (L s) x ++ [((pkN (L s) (j + 1) : Nat) : Int)] by
                rw [HIS.out, if_pos (isU_of hxL (by rw [hg]; exact hu)), getD_of (by rw [HPL.out]; exact hxL), hj, Int.toNat_natCast])
              obtain ⟨pA, pc, rfl, _⟩ := id hrd
              obtain ⟨pb, po, rfl, hpb, hpc⟩ := hrd.at_ (by rw [HPL.out, L_len]; omega)
              have c1 := (hBr.cell (p := ⟨pb, po + x, none⟩) hpb).trans (hpc x (by rw [HPL.out]; exact hxL))
              rw [hj] at c1
              obtain ⟨hlt2, c2⟩ := HRC.out j hjl
              have c2 := (hBr.cell (p := ⟨w2.heap.size, j, none⟩) hlt2).trans c2
              have hjs : (j : Int) < (s.size : Int) := by omega
              have hxp : (x : Int) < ((prt (L s)).length : Int) := by rw [HPL.out]; omega
              have hlen : (iL (L s) x).length < 1099511627776 := by
                have := iL_is HD.out x (by rw [L_len]; omega)
                rw [this, List.length_take]
                have := cu_take_le (L s) x
                have := dyck_half HD.out
                rw [L_len] at this
                omega
              clear hu hg hpc hj hpr
              go_wp2_with (at_builtin; refine wpList_appI _ rfl _ _ rfl w.heap.size _ _ rfl hown _ rfl rfl hlen hs6 ?_)
              intro v' w7 hown7 hg7 hat7
              have hB7 := below_of_own hB6 hg7 hs6 (fun g hg => (hown.lt g hg).1)
              have hBr7 := hBr.grown hg7 hBr.size (fun g hg => by rw [← HSZ.out]; exact hgo g hg)
              have hgo7 : ∀ g, v'.ownBlock = some g → sz ≤ g := fun g hg => by
                rcases hat7.1 with e | e
                · exact hgo g (e ▸ hg)
                · rw [e] at hg; injection hg with hg; have := hBr.size; have := HSZ.out; omega
              clear hown hg7 hat7 hgo hB6 hBr
              go_wp2_with fail
              go_roundw
              case rel => exact ⟨x + 1, by omega, by go_num, by rw [HN.out]; exact hown7, hgo7, hB7, hBr7⟩
              case measure => simp [intOf]; omega
            · have f1 : (((s[x].toNat : Nat) : Int) == 117) = false := by simp; omega
              have HN := Lib.hid (show iL (L s) (x + 1) = iL (L s) x by rw [HIS.out, if_neg (by rw [isU_not hxL (by rw [hg]; exact hu)]; simp), List.append_nil])
              clear hu hg
              go_wp2_with fail
              go_roundw
              case rel => exact ⟨x + 1, by omega, by go_num, by rw [HN.out]; exact hown, hgo, hB6, hBr⟩
              case measure => simp [intOf]; omega
          · have hxe : x = s.size := by omega
            subst hxe
            go_wp2_with fail
            refine (implRenumberBlocks_any _ _ _ hown.rd).mono ?_; rintro e w7 ⟨r, rfl, o7, b7⟩
            go_wp2_with fail
            go_ret2
            exact RetIB.mk (l := (rnR (iL (L s) s.size)).1) HV.out (o7.mono hs6) (below_then hB6 b7)
  · have HV := Lib.hid (show parR (L s) = ([], false) by unfold parR; rw [if_neg hp])
    have HP0 := implIsDyck_any s w
    simp only [decide_eq_false hp] at HP0
    clear hp
    go_enter Try.func84, Try.ntmps84
    go_wp2_with fail
    refine HP0.mono ?_; rintro e w1 ⟨rfl, b1⟩
    go_wp2_with fail
    go_ret2
    exact RetIB.mk HV.out (OwI.empty_ _ _ b1.size) (b1.alloc b1.size _)
end Go.Proofs.Ytnkkgfeegaiakaa
