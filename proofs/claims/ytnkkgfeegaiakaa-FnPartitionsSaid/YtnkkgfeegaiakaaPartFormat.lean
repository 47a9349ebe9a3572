/- Contracts of FormatPartition, the program's and the reference's: both return the same text. No condition. -/
import Derived.Test.YtnkkgfeegaiakaaGlue
import Derived.Test.YtnkkgfeegaiakaaBlocks
import Derived.Test.YtnkkgfeegaiakaaBlocksImpl
import Derived.Test.YtnkkgfeegaiakaaPlain12
namespace Go.Proofs.Ytnkkgfeegaiakaa
open Go.RowKit
def Small (R : List (List Int)) : Prop := R.length ≤ 8 ∧ ∀ y (_ : y < R.length), R[y].length ≤ 8 ∧ ∀ j (_ : j < R[y].length), ∃ n : Nat, R[y][j] = (n : Int) ∧ n < 8
theorem blocksR_small (p : List Int) : Small (blocksR p) := by
  unfold blocksR
  by_cases hp : PartP p
  · rw [if_pos hp]
    have h1 := bks_len hp p.length (Nat.le_refl _)
    have h2 := nextOf_le_k p hp p.length (Nat.le_refl _)
    have h8 := hp.1
    refine ⟨by omega, fun y hy => ?_⟩
    have e : (bks p p.length)[y] = flt p p.length y := by rw [← bks_row hp p.length (Nat.le_refl _) y, getD_of hy]
    have hl := bks_rows p p.length y
    rw [getD_of hy] at hl
    refine ⟨by omega, fun j hj => ?_⟩
    have hj' : j < (fltN p p.length y).length := by rw [e, flt_len] at hj; exact hj
    refine ⟨(fltN p p.length y)[j], ?_, ?_⟩
    · have := flt_get hj'
      rw [← this]
      simp only [e]
      rw [getD_of]
    · have := (fltN_mem.1 (List.getElem_mem hj')).1
      omega
  · rw [if_neg hp]
    exact ⟨by simp, fun y hy => by simp at hy⟩
def rowT (r : List Int) (k : Nat) : List UInt8 := (List.range k).flatMap fun (j : Nat) => dgt ((r.getD j 0).toNat + 1)
theorem rowT_succ {r : List Int} {k n : Nat} (h : k < r.length) (hn : r[k] = (n : Int)) : rowT r (k + 1) = rowT r k ++ dgt (n + 1) := by
  simp only [rowT, List.range_succ, List.flatMap_append, List.flatMap_cons, List.flatMap_nil, List.append_nil, getD_of h, hn, Int.toNat_natCast]
theorem rowT_len (r : List Int) (k : Nat) : (rowT r k).length ≤ 2 * k := by
  induction k with
  | zero => simp [rowT]
  | succ k ih =>
    have : rowT r (k + 1) = rowT r k ++ dgt ((r.getD k 0).toNat + 1) := by simp [rowT, List.range_succ]
    rw [this, List.length_append]
    have := dgt_len ((r.getD k 0).toNat + 1)
    omega
def rowsT (R : List (List Int)) : List (List UInt8) := R.map fun r => rowT r r.length
theorem rowsT_len (R : List (List Int)) : (rowsT R).length = R.length := by simp [rowsT]
theorem rowsT_get {R : List (List Int)} {y : Nat} (h : y < R.length) : (rowsT R)[y]'(by rw [rowsT_len]; exact h) = rowT R[y] R[y].length := by simp [rowsT]
theorem rowsT_le {R : List (List Int)} (h : Small R) {y : Nat} (hy : y < (rowsT R).length) : (rowsT R)[y].length ≤ 16 := by
  rw [rowsT_len] at hy
  rw [rowsT_get hy]
  have := rowT_len R[y] R[y].length
  have := (h.2 y hy).1
  omega
def fpR (p : List Int) : List UInt8 := gl [124] (rowsT (blocksR p)) (blocksR p).length
theorem fpL_len {R : List (List Int)} (h : Small R) {k : Nat} (hk : k ≤ R.length) : (gl [124] (rowsT R) k).length ≤ 200 := by
  have h1 := gl_len (c := [124]) (ss := rowsT R) (B := 17) (fun i hi => by have := rowsT_le h hi; simp; omega) k (by rw [rowsT_len]; exact hk)
  have := h.1
  omega
theorem gl_rows {R : List (List Int)} {k : Nat} (h : k < R.length) : gl [124] (rowsT R) (k + 1) = gl [124] (rowsT R) k ++ ((if k = 0 then [] else [124]) ++ rowT R[k] R[k].length) := by
  rw [gl_succ (by rw [rowsT_len]; exact h), rowsT_get h]
set_option maxHeartbeats 1000000 in
theorem specFormatPartition_any (v : Value) (p : List Int) (w : World) (hv : RdI w v p) :
    Calls Try.prog 104 #[v] w (RetS w (fpR p)) := by
  have hv0 := hv
  have HB0 := specBlocksOf_any _ _ _ hv0
  obtain ⟨A, c, rfl, hc, hl, _⟩ := hv
  have HS := Lib.hid (blocksR_small p)
  have HV := Lib.hid (show fpR p = gl [124] (rowsT (blocksR p)) (blocksR p).length from rfl)
  go_enter Try.func104, Try.ntmps104
  go_wp2_with fail
  refine HB0.mono ?_; rintro e w1 ⟨r, rfl, hown, B1⟩
  have hrd := hown.rd
  clear hown HB0
  generalize blocksR p = R at *
  have HR := Lib.hid hrd
  obtain ⟨rA, rc, rfl, hrc, hrl, _⟩ := hrd
  have hR8 := HS.out.1
  go_wp2_with fail
  go_loopw [4, 5] (fun x i wr => ∃ k : Nat, k ≤ R.length ∧ i = .int .i64 k ∧ x = .string (S (gl [124] (rowsT R) k)) ∧ Below w1.heap.size w1 wr) (fun _ i _ => R.length - (intOf i).toNat)
  case atStart => exact ⟨0, by omega, rfl, rfl, Below.refl _ _⟩
  case round =>
    obtain ⟨k, hk, rfl, rfl, hB⟩ := hrel
    by_cases hlt : k < R.length
    · obtain ⟨h8, hel⟩ := HS.out.2 k hlt
      have HEL := Lib.hid hel
      have hlen := fpL_len HS.out hk
      have hsz : (S (gl [124] (rowsT R) k)).size ≤ 200 := by rw [S_size]; exact hlen
      have HG := Lib.hid (gl_rows hlt)
      obtain ⟨b, o, rfl, hb, hcl⟩ := HR.out.at_ (by omega)
      obtain ⟨u, hcu, hru⟩ := hcl k hlt
      obtain ⟨Au, cu, rfl, _, _⟩ := id hru
      have HCU : Hid (∀ wq, Below w1.heap.size w1 wq → wq.cell? ⟨b, o + k, none⟩ = some (.slice Au R[k].length cu)) := fun wq hq => (hq.cell (p := ⟨b, o + k, none⟩) hb).trans hcu
      clear hcl hcu hel
      generalize R[k] = row at *
      generalize hT : gl [124] (rowsT R) k = T at *
      have HT := Lib.hid hT
      clear hT
      have c0 := HCU.out _ hB
      by_cases h0 : k = 0
      · have HK0 := Lib.hid h0
        have hk0 : ¬ (0 : Int) < (k : Int) := by omega
        have HN := Lib.hid (HG.out.trans (by rw [if_pos h0, List.nil_append]))
        clear h0 HG
        go_wp2_with fail
        go_loopw [4, 6] (fun x j wr => ∃ n : Nat, n ≤ row.length ∧ j = .int .i64 n ∧ x = .string (S (T ++ rowT row n)) ∧ Below w1.heap.size w1 wr) (fun _ j _ => row.length - (intOf j).toNat)
        case atStart => exact ⟨0, by omega, rfl, by simp [rowT], hB⟩
        case round =>
          clear hB c0
          obtain ⟨n, hn, rfl, rfl, hB⟩ := hrel
          have c0 := HCU.out _ hB
          by_cases hnl : n < row.length
          · obtain ⟨z, hz, hz8⟩ := HEL.out n hnl
            obtain ⟨xb, xo, rfl, hxb, hxc⟩ := hru.at_ (by omega)
            have c1 := (hB.cell (p := ⟨xb, xo + n, none⟩) hxb).trans (hxc n hnl)
            rw [hz] at c1
            have HZ := Lib.hid (rowT_succ hnl hz)
            have hrl := rowT_len row n
            have hsz2 : (S (T ++ rowT row n)).size ≤ 400 := by rw [S_size, List.length_append]; (try simp only [List.length_append, List.length_singleton]); omega
            have z3 : (S (dgt (z + 1))).size ≤ 2 := by rw [S_size]; exact dgt_len _
            have HN2 := Lib.hid (show S (T ++ rowT row n) ++ S (dgt (z + 1)) = S (T ++ rowT row (n + 1)) by rw [HZ.out, S_append, List.append_assoc])
            clear hz hxc
            go_wp2_with fail
            rw [show ((z : Int) + 1) = ((z + 1 : Nat) : Int) by omega]
            refine (specFormatInt_any _ _ (by omega)).mono ?_; rintro e w2 ⟨rfl, b2⟩
            have hB2 := below_then hB b2
            clear c0 c1
            go_wp2_with fail
            go_roundw
            case rel => exact ⟨n + 1, by omega, by go_num, by rw [HN2.out], hB2⟩
            case measure => simp [intOf]; omega
          · have hne : n = row.length := by omega
            subst hne
            go_wp2_with fail
            go_roundw
            case rel => exact ⟨k + 1, by omega, by go_num, by rw [HN.out], hB⟩
            case measure => simp [intOf]; omega
      · have hk0 : (0 : Int) < (k : Int) := by omega
        have hk1 : 0 < k := by omega
        have hk2 : decide ((0 : Int) < (k : Int)) = true := decide_eq_true hk0
        obtain ⟨P, hP⟩ : ∃ P, P = T ++ [124] := ⟨_, rfl⟩
        have HN := Lib.hid (show gl [124] (rowsT R) (k + 1) = P ++ rowT row row.length by rw [HG.out, if_neg h0, hP, List.append_assoc])
        have HP := Lib.hid (show S T ++ ⟨#[124]⟩ = S P by rw [hP, S_snoc])
        have hPl : P.length ≤ 201 := by rw [hP, List.length_append, List.length_singleton]; omega
        clear hP
        clear h0 HG
        go_wp2_with fail
        rw [HP.out]
        go_loopw [4, 6] (fun x j wr => ∃ n : Nat, n ≤ row.length ∧ j = .int .i64 n ∧ x = .string (S (P ++ rowT row n)) ∧ Below w1.heap.size w1 wr) (fun _ j _ => row.length - (intOf j).toNat)
        case atStart => exact ⟨0, by omega, rfl, by simp [rowT], hB⟩
        case round =>
          clear hB c0
          obtain ⟨n, hn, rfl, rfl, hB⟩ := hrel
          have c0 := HCU.out _ hB
          by_cases hnl : n < row.length
          · obtain ⟨z, hz, hz8⟩ := HEL.out n hnl
            obtain ⟨xb, xo, rfl, hxb, hxc⟩ := hru.at_ (by omega)
            have c1 := (hB.cell (p := ⟨xb, xo + n, none⟩) hxb).trans (hxc n hnl)
            rw [hz] at c1
            have HZ := Lib.hid (rowT_succ hnl hz)
            have hrl := rowT_len row n
            have hsz2 : (S (P ++ rowT row n)).size ≤ 400 := by rw [S_size, List.length_append]; (try simp only [List.length_append, List.length_singleton]); omega
            have z3 : (S (dgt (z + 1))).size ≤ 2 := by rw [S_size]; exact dgt_len _
            have HN2 := Lib.hid (show S (P ++ rowT row n) ++ S (dgt (z + 1)) = S (P ++ rowT row (n + 1)) by rw [HZ.out, S_append, List.append_assoc])
            clear hz hxc
            go_wp2_with fail
            rw [show ((z : Int) + 1) = ((z + 1 : Nat) : Int) by omega]
            refine (specFormatInt_any _ _ (by omega)).mono ?_; rintro e w2 ⟨rfl, b2⟩
            have hB2 := below_then hB b2
            clear c0 c1
            go_wp2_with fail
            go_roundw
            case rel => exact ⟨n + 1, by omega, by go_num, by rw [HN2.out], hB2⟩
            case measure => simp [intOf]; omega
          · have hne : n = row.length := by omega
            subst hne
            go_wp2_with fail
            go_roundw
            case rel => exact ⟨k + 1, by omega, by go_num, by rw [HN.out], hB⟩
            case measure => simp [intOf]; omega
    · have hke : k = R.length := by omega
      subst hke
      go_wp2_with fail
      go_ret
      exact RetS.mk (by rw [HV.out]) (below_then B1 hB)
set_option maxHeartbeats 1000000 in
theorem implFormatPartition_any (v : Value) (p : List Int) (w : World) (hv : RdI w v p) :
    Calls Try.prog 103 #[v] w (RetS w (fpR p)) := by
  have hv0 := hv
  have B1 : Below w.heap.size w (w.alloc (.cells #[] 9)) := (Below.refl _ _).alloc (Nat.le_refl _) _
  have own0 := OwR.lit (e := 9) (f := sf) w [] w.heap.size (Nat.le_refl _) (by simp)
  have own0 : OwR 9 sf (w.alloc (.cells #[] 9)) w.heap.size (.slice (some ⟨w.heap.size, 0, none⟩) 0 0) [] := own0
  have hlt1 : w.heap.size < (w.alloc (.cells #[] 9)).heap.size := by simp
  have HB0 := implBlocksOf_any _ _ _ (hv0.below B1)
  obtain ⟨A, c, rfl, hc, hl, _⟩ := hv
  have HS := Lib.hid (blocksR_small p)
  have HV := Lib.hid (show fpR p = gl [124] (rowsT (blocksR p)) (rowsT (blocksR p)).length by rw [rowsT_len]; rfl)
  go_enter Try.func103, Try.ntmps103
  go_wp2_with fail
  generalize w.alloc (.cells #[] 9) = w0 at *
  refine HB0.mono ?_; rintro e w1 ⟨r, rfl, hown, b1⟩
  have B1' := below_then B1 b1
  have own1 := own0.below b1
  have hs1 := b1.size
  clear HB0 own0 b1 B1
  generalize blocksR p = R at *
  obtain ⟨rA, rc, rfl⟩ := hown.shape
  have hR8 := HS.out.1
  have hap0 : ∀ g, (Value.slice (some ⟨w.heap.size, 0, none⟩) 0 0).ownBlock = some g → g < w0.heap.size ∨ w1.heap.size ≤ g := fun g hg => by injection hg with hg; subst hg; exact .inl hlt1
  generalize (Value.slice (some ⟨w.heap.size, 0, none⟩) 0 0) = xv at own1 hap0 ⊢
  go_wp2_with fail
  go_loopw [3, 13] (fun x i wr => ∃ k : Nat, k ≤ R.length ∧ i = .int .i64 k ∧ OwR 9 sf wr w.heap.size x ((rowsT R).take k) ∧ (∀ g, x.ownBlock = some g → g < w0.heap.size ∨ w1.heap.size ≤ g) ∧ OwSS wr w0.heap.size w1.heap.size (.slice rA R.length rc) R ∧ Below w.heap.size w wr ∧ w1.heap.size ≤ wr.heap.size) (fun _ i _ => R.length - (intOf i).toNat)
  case atStart => exact ⟨0, by omega, rfl, own1, hap0, hown, B1', Nat.le_refl _⟩
  case round =>
    clear own1 hap0 hown B1'
    obtain ⟨k, hk, rfl, hx, hap, hown, hB, hs2⟩ := hrel
    by_cases hlt : k < R.length
    · obtain ⟨h8, hel⟩ := HS.out.2 k hlt
      have HEL := Lib.hid hel
      have HG := Lib.hid (show (rowsT R).take (k + 1) = (rowsT R).take k ++ [rowT R[k] R[k].length] by rw [take_succ_get _ _ (by rw [rowsT_len]; exact hlt), rowsT_get hlt])
      obtain ⟨b, o, rfl, hb, hcl⟩ := hown.rd.at_ (by omega)
      obtain ⟨u, hcu, hru⟩ := hcl k hlt
      obtain ⟨Au, cu, rfl, _, _⟩ := id hru
      have htl : ((rowsT R).take k).length < 1099511627776 := by rw [List.length_take, rowsT_len]; omega
      clear hcl hel
      generalize R[k] = row at *
      go_wp2_with fail
      go_loopw [6, 19] (fun x j w2 => ∃ n : Nat, n ≤ row.length ∧ j = .int .i64 n ∧ x = .string (S (rowT row n)) ∧ Below wr.heap.size wr w2) (fun _ j _ => row.length - (intOf j).toNat)
      case atStart => exact ⟨0, by omega, rfl, rfl, Below.refl _ _⟩
      case round =>
        clear hcu
        obtain ⟨n, hn, rfl, rfl, hB2⟩ := hrel
        by_cases hnl : n < row.length
        · obtain ⟨z, hz, hz8⟩ := HEL.out n hnl
          obtain ⟨xb, xo, rfl, hxb, hxc⟩ := hru.at_ (by omega)
          have c1 := (hB2.cell (p := ⟨xb, xo + n, none⟩) hxb).trans (hxc n hnl)
          rw [hz] at c1
          have HZ := Lib.hid (rowT_succ hnl hz)
          have hrl := rowT_len row n
          have hsz2 : (S (rowT row n)).size ≤ 400 := by rw [S_size]; omega
          have z3 : (S (dgt (z + 1))).size ≤ 2 := by rw [S_size]; exact dgt_len _
          have HN2 := Lib.hid (show S (rowT row n) ++ S (dgt (z + 1)) = S (rowT row (n + 1)) by rw [HZ.out, S_append])
          clear hz hxc
          go_wp2_with fail
          rw [show ((z : Int) + 1) = ((z + 1 : Nat) : Int) by omega]
          refine (implFormatInt_any _ _ (by omega)).mono ?_; rintro e w3 ⟨rfl, b3⟩
          have hB3 := below_then hB2 b3
          clear c1
          go_wp2_with fail
          go_roundw
          case rel => exact ⟨n + 1, by omega, by go_num, by rw [HN2.out], hB3⟩
          case measure => simp [intOf]; omega
        · have hne : n = row.length := by omega
          subst hne
          have hx2 := hx.below hB2
          have hown2 := hown.below hB2
          have hB3 := below_then hB hB2
          have hs3 : w1.heap.size ≤ _ := Nat.le_trans hs2 hB2.size
          have hs4 := hB3.size
          clear hx hown hB hB2 hru
          go_wp2_with (at_builtin; refine wpList_appR (f := sf) _ rfl _ _ 64 rfl w.heap.size 9 (sf []) 16 Try.underlying64 info_str rfl (by omega) _ _ rfl hx2 (rowT row row.length) rfl rfl rfl htl hs4 ?_)
          intro v' w3 hx3 hg3 hat3
          have hB4 := below_of_own hB3 hg3 hs4 (fun g hg => (hx2.lt g hg).1)
          have hown3 := hown2.grown_row hg3 hap
          have hap3 : ∀ g, v'.ownBlock = some g → g < w0.heap.size ∨ w1.heap.size ≤ g := fun g hg => by
            rcases hat3.1 with e | e
            · exact hap g (e ▸ hg)
            · rw [e] at hg; injection hg with hg; right; omega
          have hs5 : w1.heap.size ≤ w3.heap.size := Nat.le_trans hs3 hg3.size
          clear hx2 hg3 hat3 hap hown2 hB3
          go_wp2_with fail
          go_roundw
          case rel => exact ⟨k + 1, by omega, by go_num, by rw [HG.out]; exact hx3, hap3, hown3, hB4, hs5⟩
          case measure => simp [intOf]; omega
    · have hke : k = R.length := by omega
      subst hke
      have hx' := hx.rd
      rw [List.take_of_length_le (by rw [rowsT_len]; exact Nat.le_refl _)] at hx'
      have HX := Lib.hid hx'
      clear hx'
      go_wp2_with fail
      refine (glued_any _ _ [124] _ HX.out (fun i hi => by have := rowsT_le HS.out hi; simp; omega) (by rw [rowsT_len]; omega)).mono ?_; rintro e w2 ⟨rfl, rfl⟩
      go_wp2_with fail
      go_ret
      exact RetS.mk (by rw [HV.out]) hB
end Go.Proofs.Ytnkkgfeegaiakaa
