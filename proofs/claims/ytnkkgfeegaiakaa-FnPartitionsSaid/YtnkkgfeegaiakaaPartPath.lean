/- Contracts of PathOfPartition, the program's and the reference's: both return the same text and bool. No condition. -/
import Derived.Test.YtnkkgfeegaiakaaPartCross
import Derived.Test.YtnkkgfeegaiakaaBlocks
import Derived.Test.YtnkkgfeegaiakaaBlocksImpl
import Derived.Test.YtnkkgfeegaiakaaPlain17
import Derived.Test.YtnkkgfeegaiakaaGround
namespace Go.Proofs.Ytnkkgfeegaiakaa
open Go.RowKit
/-- the row of an element's block, in memory -/
theorem block_row {w : World} {v : Value} {p : List Int} (hp : PartP p) (h : RdSS w v (bks p p.length)) {i : Nat} (hi : i < p.length) :
    ∃ (y b o n c : Nat) (Au : Option Addr) (cu : Nat), p[i] = (y : Int) ∧ y < n ∧ v = .slice (some ⟨b, o, none⟩) n c ∧ b < w.heap.size ∧ w.cell? ⟨b, o + y, none⟩ = some (.slice Au (rwP p i).length cu) ∧ RdI w (.slice Au (rwP p i).length cu) (rwP p i) ∧ 0 < (rwP p i).length ∧ (bks p p.length).length = n := by
  obtain ⟨y, h1, h2, h3, h4⟩ := rwP_facts hp hi
  obtain ⟨A, c, rfl, hc, hl, hA⟩ := h
  obtain ⟨b, o, rfl, hb, hcl⟩ := hA (by omega)
  obtain ⟨u, hu, hr⟩ := hcl y h2
  have e : (bks p p.length)[y] = rwP p i := by rw [h3, getD_of h2]
  rw [e] at hr
  obtain ⟨Au, cu, rfl, _⟩ := id hr
  exact ⟨y, b, o, _, c, Au, cu, h1, h2, rfl, hb, hu, hr, h4, rfl⟩
theorem ppaRep (l : List UInt8) (m : Nat) : (l ++ 117 :: List.replicate m 100) ++ [100] = l ++ 117 :: List.replicate (m + 1) 100 := by
  rw [List.append_assoc, List.cons_append, ← List.replicate_succ']
set_option maxHeartbeats 1000000 in
theorem specPathOfPartition_any (v : Value) (p : List Int) (w : World) (hv : RdI w v p) :
    Calls Try.prog 94 #[v] w (RetSB w (ppaR p)) := by
  have hv0 := hv
  have HP0 := specIsNoncrossing_any _ _ _ hv0
  obtain ⟨A, c, rfl, hc, hl, _⟩ := hv
  by_cases hT : NonP p
  · simp only [decide_eq_true hT] at HP0
    have HV := Lib.hid (show ppaR p = (ppaL p p.length, true) by unfold ppaR; rw [if_pos hT])
    have HP := Lib.hid hT.1
    have h8 : p.length ≤ 8 := hT.1.1
    have HR := Lib.hid (show blocksR p = bks p p.length by unfold blocksR; rw [if_pos hT.1])
    clear hT
    go_enter Try.func94, Try.ntmps94
    go_wp2_with fail
    refine HP0.mono ?_; rintro e w' ⟨rfl, q, rfl⟩
    go_wp2_with fail
    refine (specBlocksOf_any _ _ _ (hv0.drewN q)).mono ?_; rintro e w2 ⟨r, rfl, hown, b2⟩
    have B2 : Below w.heap.size w w2 := below_then (below_draws w q) b2
    rw [HR.out] at hown
    have hrd := Lib.hid hown.rd
    have hv2 := hv0.below B2
    clear hown b2 HP0
    go_wp2_with fail
    go_loopw [4, 6] (fun x i wr => ∃ k : Nat, k ≤ p.length ∧ i = .int .i64 (k : Int) ∧ x = .string (S (ppaL p k)) ∧ ∃ q, wr = w2.drewN q) (fun _ i _ => p.length - (intOf i).toNat)
    case atStart => exact ⟨0, by omega, rfl, rfl, 0, rfl⟩
    case round =>
      obtain ⟨k, hk, rfl, rfl, q, rfl⟩ := hrel
      by_cases hlt : k < p.length
      · obtain ⟨y, b, o, n, cb, Au, cu, hy, hyn, rfl, hb, hcu, hru, hpos, hnn⟩ := block_row HP.out hrd.out hlt
        have hrl := rwP_len p k
        have HS := Lib.hid (ppaL_succ p k)
        have hST : ppaStep p k = 117 :: (if (rwP p k).getD ((rwP p k).length - 1) 0 = (k : Int) then List.replicate (rwP p k).length 100 else []) := rfl
        have HST := Lib.hid hST
        clear hST
        generalize rwP p k = R at *
        have hsz : (S (ppaL p k)).size ≤ 1000 := by
          rw [S_size]
          have := ppaL_len p k
          have : k * (p.length + 1) ≤ 8 * 9 := Nat.mul_le_mul (by omega) (by omega)
          omega
        obtain ⟨pb, po, rfl, _, hpc⟩ := hv2.at_ (by omega)
        have c1 := hpc k hlt
        rw [hy] at c1
        obtain ⟨rb, ro, rfl, _, hrc⟩ := hru.at_ hpos
        have c2 := hrc (R.length - 1) (by omega)
        have hyn' : (y : Int) < (n : Int) := by omega
        have hw1 : ((R.length : Int) - 1) = ((R.length - 1 : Nat) : Int) := by omega
        have hlast : R.getD (R.length - 1) 0 = R[R.length - 1] := getD_of (by omega) 0
        rw [hlast] at HST
        have HLN := Lib.hid hnn
        have HY := Lib.hid hy
        clear hpc hlast hnn hy
        by_cases he : R[R.length - 1] = (k : Int)
        · have f1 : (R[R.length - 1] == (k : Int)) = true := by simpa using he
          have HE := Lib.hid (HST.out.trans (by rw [if_pos he]))
          clear he HST
          go_wp2_with fail
          have hl72 : (ppaL p k).length ≤ 1000 := by rw [S_size] at hsz; exact hsz
          go_loopw [4, 8] (fun x j wr => ∃ m : Nat, m ≤ R.length ∧ j = .int .i64 (m : Int) ∧ x = .string (S (ppaL p k ++ 117 :: List.replicate m 100)) ∧ ∃ q, wr = w2.drewN q) (fun _ j _ => R.length - (intOf j).toNat)
          case atStart => exact ⟨0, by omega, rfl, by rw [S_snoc]; rfl, _, rfl⟩
          case round =>
            clear hsz
            obtain ⟨m, hm, rfl, rfl, q, rfl⟩ := hrel
            by_cases hml : m < R.length
            · have hsz2 : (S (ppaL p k ++ 117 :: List.replicate m 100)).size ≤ 2000 := by rw [S_size, List.length_append, List.length_cons, List.length_replicate]; omega
              have HC := Lib.hid (show S (ppaL p k ++ 117 :: List.replicate m 100) ++ ⟨#[100]⟩ = S (ppaL p k ++ 117 :: List.replicate (m + 1) 100) by rw [S_snoc, ppaRep])
              go_wp2_with fail
              go_roundw
              case rel => exact ⟨m + 1, by omega, by go_num, by rw [HC.out], _, rfl⟩
              case measure => simp [intOf]; omega
            · have hme : m = R.length := by omega
              subst hme
              have HN := Lib.hid (show ppaL p (k + 1) = ppaL p k ++ 117 :: List.replicate R.length 100 by rw [HS.out, HE.out])
              go_wp2_with fail
              go_roundw
              case rel => exact ⟨k + 1, by omega, by go_num, by rw [HN.out], _, rfl⟩
              case measure => simp [intOf]; omega
        · have f1 : (R[R.length - 1] == (k : Int)) = false := by simpa using he
          have HE := Lib.hid (HST.out.trans (by rw [if_neg he]))
          have HN := Lib.hid (show S (ppaL p k) ++ ⟨#[117]⟩ = S (ppaL p (k + 1)) by rw [S_snoc, HS.out, HE.out])
          clear he HST
          go_wp2_with fail
          go_roundw
          case rel => exact ⟨k + 1, by omega, by go_num, by rw [HN.out], _, rfl⟩
          case measure => simp [intOf]; omega
      · have hke : k = p.length := by omega
        subst hke
        go_wp2_with fail
        go_ret2
        exact RetSB.mk HV.out rfl (below_drewN B2 _)
  · simp only [decide_eq_false hT] at HP0
    have HV := Lib.hid (show ppaR p = ([], false) by unfold ppaR; rw [if_neg hT])
    clear hT
    go_enter Try.func94, Try.ntmps94
    go_wp2_with fail
    refine HP0.mono ?_; rintro e w' ⟨rfl, q, rfl⟩
    go_wp2_with fail
    go_ret2
    exact RetSB.mk HV.out rfl (below_draws _ _)
set_option maxHeartbeats 1000000 in
theorem implPathOfPartition_any (v : Value) (p : List Int) (w : World) (hv : RdI w v p) :
    Calls Try.prog 86 #[v] w (RetSB w (ppaR p)) := by
  have hv0 := hv
  have HP0 := implIsNoncrossing_any _ _ _ hv0
  obtain ⟨A, c, rfl, hc, hl, _⟩ := hv
  by_cases hT : NonP p
  · simp only [decide_eq_true hT] at HP0
    have HV := Lib.hid (show ppaR p = (ppaL p p.length, true) by unfold ppaR; rw [if_pos hT])
    have HP := Lib.hid hT.1
    have h8 : p.length ≤ 8 := hT.1.1
    have HR := Lib.hid (show blocksR p = bks p p.length by unfold blocksR; rw [if_pos hT.1])
    clear hT
    go_enter Try.func86, Try.ntmps86
    go_wp2_with fail
    refine HP0.mono ?_; rintro e w' ⟨rfl, q, rfl⟩
    go_wp2_with fail
    have own0 := OwR.emptyB (w.drewN q) w.heap.size (Nat.le_refl _)
    have B1 : Below w.heap.size w ((w.drewN q).alloc (.cells #[] 5)) := (below_draws w q).alloc (Nat.le_refl _) _
    have hlt1 : w.heap.size < ((w.drewN q).alloc (.cells #[] 5)).heap.size := by simp
    generalize (w.drewN q).alloc (.cells #[] 5) = w1 at *
    refine (implBlocksOf_any _ _ _ (hv0.below B1)).mono ?_; rintro e w2 ⟨r, rfl, hown, b2⟩
    have B2 : Below w.heap.size w w2 := below_then B1 b2
    have own0 := own0.below b2
    rw [HR.out] at hown
    have hz2 : World.heap (w.drewN q) = w.heap := rfl
    rw [hz2] at own0
    have hw1 : w.heap.size < w1.heap.size ∨ w2.heap.size ≤ w.heap.size := .inl hlt1
    have hs12 := b2.size
    have hsz2 := B2.size
    clear b2 HP0 HR
    go_wp2_with fail
    have hap0 : ∀ g, (Value.slice (some ⟨w.heap.size, 0, none⟩) 0 0).ownBlock = some g → g < w1.heap.size ∨ w2.heap.size ≤ g := fun g hg => by injection hg with hg; subst hg; exact hw1
    generalize (Value.slice (some ⟨w.heap.size, 0, none⟩) 0 0) = xv at own0 hap0 ⊢
    go_loopw [4, 17] (fun x i wr => ∃ k : Nat, k ≤ p.length ∧ i = .int .i64 (k : Int) ∧ OwR 5 bf wr w.heap.size x (ppaL p k) ∧ (∀ g, x.ownBlock = some g → g < w1.heap.size ∨ w2.heap.size ≤ g) ∧ OwSS wr w1.heap.size w2.heap.size r (bks p p.length) ∧ Below w.heap.size w wr ∧ w2.heap.size ≤ wr.heap.size) (fun _ i _ => p.length - (intOf i).toNat)
    case atStart => exact ⟨0, by omega, rfl, own0, hap0, hown, B2, Nat.le_refl _⟩
    case round =>
      clear own0 hap0 hown B2 B1 hlt1 hw1 hz2
      obtain ⟨k, hk, rfl, hx, hap, hown, hB, hs2⟩ := hrel
      have hsz := hB.size
      by_cases hlt : k < p.length
      · have hrl := rwP_len p k
        have HS := Lib.hid (ppaL_succ p k)
        have HST := Lib.hid (show ppaStep p k = 117 :: (if (rwP p k).getD ((rwP p k).length - 1) 0 = (k : Int) then List.replicate (rwP p k).length 100 else []) from rfl)
        have hll : (ppaL p k).length ≤ 1000 := by
          have := ppaL_len p k
          have : k * (p.length + 1) ≤ 8 * 9 := Nat.mul_le_mul (by omega) (by omega)
          omega
        have hlen : (ppaL p k).length < 1099511627776 := by omega
        obtain ⟨pb, po, rfl, hpb, hpc⟩ := hv0.at_ (by omega)
        have c1 := (hB.cell (p := ⟨pb, po + k, none⟩) hpb).trans (hpc k hlt)
        obtain ⟨y0, hy0⟩ : ∃ y : Nat, p[k] = (y : Int) := (rwP_facts HP.out hlt).imp fun y h => h.1
        rw [hy0] at c1
        have HY0 := Lib.hid hy0
        clear hpc hy0
        go_wp2_with (at_builtin; refine wpList_appB _ rfl _ _ rfl w.heap.size _ _ rfl hx 117 _ rfl rfl rfl hlen hsz ?_)
        intro v' w3 hx3 hg3 hat3
        have hB3 := below_of_own hB hg3 hsz (fun g hg => (hx.lt g hg).1)
        have hown3 := hown.grown_row hg3 hap
        have hap3 : ∀ g, v'.ownBlock = some g → g < w1.heap.size ∨ w2.heap.size ≤ g := fun g hg => by
          rcases hat3.1 with e | e
          · exact hap g (e ▸ hg)
          · rw [e] at hg; injection hg with hg; right; omega
        have hs3 : w2.heap.size ≤ w3.heap.size := Nat.le_trans hs2 hg3.size
        clear hx hg3 hat3 hap hown hB c1
        obtain ⟨y, b, o, n, cb, Au, cu, hy, hyn, rfl, hb, hcu, hru, hpos, hnn⟩ := block_row HP.out hown3.rd hlt
        obtain rfl : y = y0 := by have := HY0.out; omega
        generalize rwP p k = R at *
        obtain ⟨rb, ro, rfl, _, hrc⟩ := hru.at_ hpos
        have c2 := hrc (R.length - 1) (by omega)
        have hyn' : (y : Int) < (n : Int) := by omega
        have hw1 : ((R.length : Int) - 1) = ((R.length - 1 : Nat) : Int) := by omega
        have hlast : R.getD (R.length - 1) 0 = R[R.length - 1] := getD_of (by omega) 0
        rw [hlast] at HST
        have HLN := Lib.hid hnn
        clear hlast hnn hy
        have hsz3 := hB3.size
        by_cases he : R[R.length - 1] = (k : Int)
        · have f1 : (R[R.length - 1] == (k : Int)) = true := by simpa using he
          have HE := Lib.hid (HST.out.trans (by rw [if_pos he]))
          clear he HST
          go_wp2_with fail
          go_loopw [4, 39] (fun x j wr => ∃ m : Nat, m ≤ R.length ∧ j = .int .i64 (m : Int) ∧ OwR 5 bf wr w.heap.size x (ppaL p k ++ 117 :: List.replicate m 100) ∧ (∀ g, x.ownBlock = some g → g < w1.heap.size ∨ w2.heap.size ≤ g) ∧ OwSS wr w1.heap.size w2.heap.size (.slice (some ⟨b, o, none⟩) n cb) (bks p p.length) ∧ Below w.heap.size w wr ∧ w2.heap.size ≤ wr.heap.size) (fun _ j _ => R.length - (intOf j).toNat)
          case atStart => exact ⟨0, by omega, rfl, hx3, hap3, hown3, hB3, hs3⟩
          case round =>
            clear hx3 hap3 hown3 hB3 hs3 hsz3 hcu hrc c2 hru hs2 hsz hlen
            obtain ⟨m, hm, rfl, hx, hap, hown, hB, hs2⟩ := hrel
            have hsz := hB.size
            by_cases hml : m < R.length
            · have hlen : (ppaL p k ++ 117 :: List.replicate m 100).length < 1099511627776 := by rw [List.length_append, List.length_cons, List.length_replicate]; omega
              have HC := Lib.hid (ppaRep (ppaL p k) m)
              go_wp2_with (at_builtin; refine wpList_appB _ rfl _ _ rfl w.heap.size _ _ rfl hx 100 _ rfl rfl rfl hlen hsz ?_)
              intro v' w3 hx3 hg3 hat3
              have hB3 := below_of_own hB hg3 hsz (fun g hg => (hx.lt g hg).1)
              have hown3 := hown.grown_row hg3 hap
              have hap3 : ∀ g, v'.ownBlock = some g → g < w1.heap.size ∨ w2.heap.size ≤ g := fun g hg => by
                rcases hat3.1 with e | e
                · exact hap g (e ▸ hg)
                · rw [e] at hg; injection hg with hg; right; omega
              have hs3 : w2.heap.size ≤ w3.heap.size := Nat.le_trans hs2 hg3.size
              clear hx hg3 hat3 hap hown hB
              go_wp2_with fail
              go_roundw
              case rel => exact ⟨m + 1, by omega, by go_num, by rw [← HC.out]; simpa using hx3, hap3, hown3, hB3, hs3⟩
              case measure => simp [intOf]; omega
            · have hme : m = R.length := by omega
              subst hme
              have HN := Lib.hid (show ppaL p (k + 1) = ppaL p k ++ 117 :: List.replicate R.length 100 by rw [HS.out, HE.out])
              go_wp2_with fail
              go_roundw
              case rel => exact ⟨k + 1, by omega, by go_num, by rw [HN.out]; exact hx, hap, hown, hB, hs2⟩
              case measure => simp [intOf]; omega
        · have f1 : (R[R.length - 1] == (k : Int)) = false := by simpa using he
          have HE := Lib.hid (HST.out.trans (by rw [if_neg he]))
          have HN := Lib.hid (show ppaL p (k + 1) = ppaL p k ++ [117] by rw [HS.out, HE.out])
          clear he HST
          go_wp2_with fail
          go_roundw
          case rel => exact ⟨k + 1, by omega, by go_num, by rw [HN.out]; exact hx3, hap3, hown3, hB3, hs3⟩
          case measure => simp [intOf]; omega
      · have hke : k = p.length := by omega
        subst hke
        have kc := conv_row hx
        go_wp2_with fail
        go_ret2
        exact RetSB.mk HV.out rfl hB
  · simp only [decide_eq_false hT] at HP0
    have HV := Lib.hid (show ppaR p = ([], false) by unfold ppaR; rw [if_neg hT])
    clear hT
    go_enter Try.func86, Try.ntmps86
    go_wp2_with fail
    refine HP0.mono ?_; rintro e w' ⟨rfl, q, rfl⟩
    go_wp2_with fail
    go_ret2
    exact RetSB.mk HV.out rfl (below_draws _ _)
end Go.Proofs.Ytnkkgfeegaiakaa
