/- Contracts of FormatMatching, the program's and the reference's: both return the same text. No condition. -/
import Derived.Test.YtnkkgfeegaiakaaGlue
import Derived.Test.YtnkkgfeegaiakaaMatch
import Derived.Deep.RegionHeld3
namespace Go.Proofs.Ytnkkgfeegaiakaa
open Go.RowKit
/-- the arc at a place, as text -/
def arcT (m : List Int) (i : Nat) : List UInt8 := dgt i ++ ([45] ++ dgt (m.getD i 0).toNat)
/-- the texts of the arcs that begin ahead of a place -/
def arcsT (m : List Int) (k : Nat) : List (List UInt8) := (List.range k).flatMap fun (i : Nat) => if (i : Int) < m.getD i 0 then [arcT m i] else []
theorem arcsT_succ (m : List Int) (k : Nat) : arcsT m (k + 1) = arcsT m k ++ (if (k : Int) < m.getD k 0 then [arcT m k] else []) := by simp [arcsT, List.range_succ]
theorem arcT_len (m : List Int) (i : Nat) : (arcT m i).length ≤ 5 := by
  unfold arcT
  have h1 := dgt_len i
  have h2 := dgt_len (m.getD i 0).toNat
  simp only [List.length_append, List.length_singleton]
  omega
theorem arcsT_mem {m : List Int} {k : Nat} {x : List UInt8} (h : x ∈ arcsT m k) : x.length ≤ 5 ∧ x ≠ [] := by
  unfold arcsT at h
  obtain ⟨i, _, hi⟩ := List.mem_flatMap.1 h
  split at hi
  · rw [List.mem_singleton.1 hi]
    refine ⟨arcT_len m i, ?_⟩
    unfold arcT dgt
    split <;> simp
  · cases hi
theorem arcsT_len (m : List Int) (k : Nat) : (arcsT m k).length ≤ k := by
  induction k with
  | zero => simp [arcsT]
  | succ k ih =>
    rw [arcsT_succ, List.length_append]
    split <;> simp <;> omega
def glA (m : List Int) (k : Nat) : List UInt8 := gl [32] (arcsT m k) (arcsT m k).length
theorem glA_len (m : List Int) (k : Nat) (hk : k ≤ 100) : (glA m k).length ≤ 600 := by
  have h1 := gl_len (c := [32]) (ss := arcsT m k) (B := 6) (fun i hi => by have := (arcsT_mem (List.getElem_mem hi)).1; simp; omega) _ (Nat.le_refl _)
  have h2 := arcsT_len m k
  unfold glA
  omega
theorem glA_zero (m : List Int) : glA m 0 = [] := rfl
theorem glA_hit {m : List Int} {k : Nat} (h : (k : Int) < m.getD k 0) : glA m (k + 1) = glA m k ++ ((if glA m k = [] then [] else [32]) ++ arcT m k) := by
  unfold glA
  rw [arcsT_succ, if_pos h, gl_snoc]
  congr 2
  by_cases h0 : (arcsT m k).length = 0
  · rw [if_pos h0, if_pos]
    rw [h0]; rfl
  · rw [if_neg h0, if_neg]
    obtain ⟨n, hn⟩ : ∃ n, (arcsT m k).length = n + 1 := ⟨(arcsT m k).length - 1, by omega⟩
    rw [hn, gl_succ (by omega)]
    intro e
    have h1 := (arcsT_mem (List.getElem_mem (show n < (arcsT m k).length by omega))).2
    have h2 := List.append_eq_nil_iff.1 (List.append_eq_nil_iff.1 e).2
    exact h1 h2.2
theorem glA_miss {m : List Int} {k : Nat} (h : ¬ (k : Int) < m.getD k 0) : glA m (k + 1) = glA m k := by
  unfold glA
  rw [arcsT_succ, if_neg h, List.append_nil]
def fmR (m : List Int) : List UInt8 := if MatchP m then (if m.length = 0 then [110, 111, 110, 101] else glA m m.length) else []
theorem S_toList (l : List UInt8) : (S l).toList = l := ByteArray.toList_mk l
theorem match_nil : MatchP [] := ⟨by simp, fun k hk => by simp at hk⟩
set_option maxHeartbeats 1000000 in
theorem specFormatMatching_any (v : Value) (m : List Int) (w : World) (hv : RdI w v m) :
    Calls Try.prog 123 #[v] w (RetS w (fmR m)) := by
  have hv0 := hv
  obtain ⟨A, c, rfl, hc, hl, _⟩ := hv
  have HI0 : ∀ wq, Below w.heap.size w wq → Calls Try.prog 118 #[.slice A m.length c] wq fun e w' => e = .returned (.bool (decide (MatchP m))) ∧ ∃ q, w' = wq.drewN q := fun wq hq => specIsMatching_any _ _ _ (hv0.below hq)
  by_cases hP : MatchP m
  · simp only [decide_eq_true hP] at HI0
    have HI := Lib.hid HI0
    have h16 := hP.1
    have HP := Lib.hid hP
    clear hP HI0
    go_enter Try.func123, Try.ntmps123
    go_wp2_with fail
    go_loopw [3, 4] (fun x i wr => ∃ k : Nat, k ≤ m.length ∧ i = .int .i64 k ∧ x = .string (S (glA m k)) ∧ Below w.heap.size w wr) (fun _ i _ => m.length - (intOf i).toNat)
    case atStart => exact ⟨0, by omega, rfl, rfl, Below.refl _ _⟩
    case round =>
      obtain ⟨k, hk, rfl, rfl, hB⟩ := hrel
      by_cases hlt : k < m.length
      · obtain ⟨b, o, rfl, hb, hcl⟩ := hv0.at_ (by omega)
        obtain ⟨hm0, hm1, hm2, hm3⟩ := HP.out.2 k hlt
        obtain ⟨j, hj⟩ : ∃ j : Nat, m[k] = (j : Int) := ⟨m[k].toNat, by rw [getD_of hlt] at hm0; omega⟩
        have hjl : j < 16 := by rw [getD_of hlt] at hm1; omega
        have hcc : ∀ wq, Below w.heap.size w wq → wq.cell? ⟨b, o + k, none⟩ = some (.int .i64 (j : Int)) := fun wq hq => by rw [← hj]; exact (hq.cell (p := ⟨b, o + k, none⟩) hb).trans (hcl k hlt)
        have HCC := Lib.hid hcc
        have hg : m.getD k 0 = (j : Int) := by rw [getD_of hlt, hj]
        have hlen := glA_len m k (by omega)
        have hsz : (S (glA m k)).size ≤ 600 := by rw [S_size]; exact hlen
        clear hm0 hm1 hm2 hm3 hcl hcc
        by_cases hu : (k : Int) < m.getD k 0
        · have HN := Lib.hid (glA_hit hu)
          have HT := Lib.hid (show arcT m k = dgt k ++ ([45] ++ dgt j) by unfold arcT; rw [hg, Int.toNat_natCast])
          have hkj : k < j := by rw [hg] at hu; omega
          have hd1 := dgt_len k
          have hd2 := dgt_len j
          clear hu hg hj
          by_cases he : glA m k = []
          · have f1 : (!(S (glA m k)).toList.isEmpty) = false := by rw [S_toList, he]; rfl
            have HE := Lib.hid (show S (glA m k) ++ S (dgt k) ++ ⟨#[45]⟩ ++ S (dgt j) = S (glA m (k + 1)) by
              rw [HN.out, if_pos he, HT.out, List.nil_append, S_append, show (⟨#[45]⟩ : ByteArray) = S [45] from rfl, S_append, S_append]; simp)
            have z3 : (S (dgt k)).size ≤ 2 := by rw [S_size]; exact hd1
            have z4 : (S (dgt j)).size ≤ 2 := by rw [S_size]; exact hd2
            clear he
            have c0 := HCC.out _ hB
            go_wp2_with (go_at_call 118; refine (HI.out _ hB).mono ?_; rintro e w' ⟨rfl, q, rfl⟩)
            have n1 : ¬ 9223372036854775807 < (S (glA m k)).size + (S (dgt k)).size := by omega
            have n2 : ¬ 9223372036854775807 < (S (glA m k)).size + (S (dgt k)).size + 1 := by omega
            have n3 : ¬ 9223372036854775807 < (S (glA m k)).size + (S (dgt k)).size + 1 + (S (dgt j)).size := by omega
            go_region_held3 (fun w' => w'.cell? ⟨b, o + k, none⟩ = some (.int .i64 (j : Int)) ∧ Below w.heap.size w w') (first | exact ⟨HCC.out _ (below_drewN hB _), below_drewN hB _⟩ | exact ⟨HCC.out _ (below_drewN (below_drewN hB _) 1), below_drewN (below_drewN hB _) 1⟩ | (go_split_ands; exact ⟨HCC.out _ (below_then (by assumption) b1), below_then (by assumption) b1⟩))
              (first | (go_at_call 210; refine (specFormatInt_any _ _ (by omega)).mono ?_; rintro e w1 ⟨rfl, b1⟩))
            go_split_ands
            go_wp2_with fail
            go_roundw
            case rel => exact ⟨k + 1, by omega, by go_num, by rw [HE.out], by assumption⟩
            case measure => simp [intOf]; omega
          · have f1 : (!(S (glA m k)).toList.isEmpty) = true := by rw [S_toList]; simpa using he
            have HE := Lib.hid (show S (glA m k ++ [32]) ++ S (dgt k) ++ ⟨#[45]⟩ ++ S (dgt j) = S (glA m (k + 1)) by
              rw [HN.out, if_neg he, HT.out, S_append, show (⟨#[45]⟩ : ByteArray) = S [45] from rfl, S_append, S_append]; simp)
            have z3 : (S (dgt k)).size ≤ 2 := by rw [S_size]; exact hd1
            have z4 : (S (dgt j)).size ≤ 2 := by rw [S_size]; exact hd2
            clear he
            have c0 := HCC.out _ hB
            go_wp2_with (go_at_call 118; refine (HI.out _ hB).mono ?_; rintro e w' ⟨rfl, q, rfl⟩)
            rw [S_snoc]
            have hsz' : (S (glA m k ++ [32])).size ≤ 601 := by rw [S_size, List.length_append, List.length_singleton]; omega
            generalize S (glA m k ++ [32]) = T at *
            have n1 : ¬ 9223372036854775807 < T.size + (S (dgt k)).size := by omega
            have n2 : ¬ 9223372036854775807 < T.size + (S (dgt k)).size + 1 := by omega
            have n3 : ¬ 9223372036854775807 < T.size + (S (dgt k)).size + 1 + (S (dgt j)).size := by omega
            go_region_held3 (fun w' => w'.cell? ⟨b, o + k, none⟩ = some (.int .i64 (j : Int)) ∧ Below w.heap.size w w') (first | exact ⟨HCC.out _ (below_drewN hB _), below_drewN hB _⟩ | exact ⟨HCC.out _ (below_drewN (below_drewN hB _) 1), below_drewN (below_drewN hB _) 1⟩ | (go_split_ands; exact ⟨HCC.out _ (below_then (by assumption) b1), below_then (by assumption) b1⟩))
              (first | (go_at_call 210; refine (specFormatInt_any _ _ (by omega)).mono ?_; rintro e w1 ⟨rfl, b1⟩))
            go_split_ands
            go_wp2_with fail
            go_roundw
            case rel => exact ⟨k + 1, by omega, by go_num, by rw [HE.out], by assumption⟩
            case measure => simp [intOf]; omega
        · have HN := Lib.hid (glA_miss hu)
          have hkj : ¬ (k : Int) < (j : Int) := by rw [hg] at hu; exact hu
          clear hu hg hj
          have c0 := HCC.out _ hB
          have c1 : ∀ q, (wr.drewN q).cell? ⟨b, o + k, none⟩ = some (.int .i64 (j : Int)) := fun q => c0
          go_wp2_with (go_at_call 118; refine (HI.out _ hB).mono ?_; rintro e w' ⟨rfl, q, rfl⟩)
          go_roundw
          case rel => exact ⟨k + 1, by omega, by go_num, by rw [HN.out], below_drewN hB _⟩
          case measure => simp [intOf]; omega
      · have hke : k = m.length := by omega
        subst hke
        rcases Nat.eq_zero_or_pos m.length with h0 | h0
        · have hm : m = [] := List.eq_nil_of_length_eq_zero h0
          subst hm
          have fS : (S (glA [] 0)).toList.isEmpty = true := by rw [S_toList]; rfl
          go_wp2_with fail
          go_ret
          exact RetS.mk (by unfold fmR; rw [if_pos HP.out]; rfl) hB
        · have HV := Lib.hid (show fmR m = glA m m.length by unfold fmR; rw [if_pos HP.out, if_neg (by omega)])
          have hne : ((m.length : Int) == 0) = false := beq_eq_false_iff_ne.2 (by omega)
          rcases hz : (S (glA m m.length)).toList.isEmpty with _ | _
          all_goals (
            go_wp2_with fail
            go_ret
            exact RetS.mk (by rw [HV.out]) hB)
  · simp only [decide_eq_false hP] at HI0
    have HI := Lib.hid HI0
    have h0 : 0 < m.length := by
      rcases Nat.eq_zero_or_pos m.length with h | h
      · rw [List.eq_nil_of_length_eq_zero h] at hP; exact absurd match_nil hP
      · exact h
    have HV := Lib.hid (show fmR m = [] by unfold fmR; rw [if_neg hP])
    clear hP HI0
    have hne : ((m.length : Int) == 0) = false := beq_eq_false_iff_ne.2 (by omega)
    go_enter Try.func123, Try.ntmps123
    go_wp2_with fail
    refine wp_loop_rounds 1 ?_
    rw [rounds_succ]
    go_wp2_with (go_at_call 118; refine (HI.out _ (Below.refl _ _)).mono ?_; rintro e w' ⟨rfl, q, rfl⟩)
    go_ret
    exact RetS.mk (by rw [HV.out]; rfl) (below_draws _ _)
set_option maxHeartbeats 1000000 in
theorem implFormatMatching_any (v : Value) (m : List Int) (w : World) (hv : RdI w v m) :
    Calls Try.prog 122 #[v] w (RetS w (fmR m)) := by
  have hv0 := hv
  obtain ⟨A, c, rfl, hc, hl, _⟩ := hv
  have HP0 := implIsMatching_any _ _ _ hv0
  by_cases hP : MatchP m
  · simp only [decide_eq_true hP] at HP0
    have h16 := hP.1
    have HP := Lib.hid hP
    clear hP
    rcases Nat.eq_zero_or_pos m.length with h0 | h0
    · have hm : m = [] := List.eq_nil_of_length_eq_zero h0
      subst hm
      go_enter Try.func122, Try.ntmps122
      go_wp2_with fail
      refine HP0.mono ?_; rintro e w1 ⟨rfl, q, rfl⟩
      go_wp2_with fail
      go_ret
      exact RetS.mk (by unfold fmR; rw [if_pos HP.out]; rfl) (below_draws _ _)
    · have HV := Lib.hid (show fmR m = glA m m.length by unfold fmR; rw [if_pos HP.out, if_neg (by omega)])
      have hne : ((m.length : Int) == 0) = false := beq_eq_false_iff_ne.2 (by omega)
      go_enter Try.func122, Try.ntmps122
      go_wp2_with fail
      refine HP0.mono ?_; rintro e w1 ⟨rfl, q, rfl⟩
      go_wp2_with fail
      have B1 : Below w.heap.size w ((w.drewN q).alloc (.cells #[] 9)) := (below_draws w q).alloc (Nat.le_refl _) _
      have own0 := OwR.lit (e := 9) (f := sf) (w.drewN q) [] w.heap.size (Nat.le_refl _) (by simp)
      have own0 : OwR 9 sf ((w.drewN q).alloc (.cells #[] 9)) w.heap.size (.slice (some ⟨w.heap.size, 0, none⟩) 0 0) [] := own0
      go_loopw [3, 15] (fun x i wr => ∃ k : Nat, k ≤ m.length ∧ i = .int .i64 k ∧ OwR 9 sf wr w.heap.size x (arcsT m k) ∧ Below w.heap.size w wr) (fun _ i _ => m.length - (intOf i).toNat)
      case atStart => exact ⟨0, by omega, rfl, own0, B1⟩
      case round =>
        clear own0 B1
        obtain ⟨k, hk, rfl, hown, hB⟩ := hrel
        by_cases hlt : k < m.length
        · obtain ⟨b, o, rfl, hb, hcl⟩ := hv0.at_ (by omega)
          obtain ⟨hm0, hm1, hm2, hm3⟩ := HP.out.2 k hlt
          obtain ⟨j, hj⟩ : ∃ j : Nat, m[k] = (j : Int) := ⟨m[k].toNat, by rw [getD_of hlt] at hm0; omega⟩
          have hjl : j < 16 := by rw [getD_of hlt] at hm1; omega
          have c0 : wr.cell? ⟨b, o + k, none⟩ = some (.int .i64 (j : Int)) := by rw [← hj]; exact (hB.cell (p := ⟨b, o + k, none⟩) hb).trans (hcl k hlt)
          have hg : m.getD k 0 = (j : Int) := by rw [getD_of hlt, hj]
          have HS := Lib.hid (arcsT_succ m k)
          rw [hg] at HS
          have hal := arcsT_len m k
          clear hm0 hm1 hm2 hm3 hcl
          by_cases hu : (k : Int) < (j : Int)
          · have HT := Lib.hid (show S (dgt k) ++ ⟨#[45]⟩ ++ S (dgt j) = S (arcT m k) by
              unfold arcT; rw [hg, Int.toNat_natCast, show (⟨#[45]⟩ : ByteArray) = S [45] from rfl, S_append, S_append]; simp)
            have HN := Lib.hid (HS.out.trans (by rw [if_pos hu]))
            have z3 : (S (dgt k)).size ≤ 2 := by rw [S_size]; exact dgt_len k
            have z4 : (S (dgt j)).size ≤ 2 := by rw [S_size]; exact dgt_len j
            clear hg hj
            go_wp2_with fail
            refine (implFormatInt_any _ _ (by omega)).mono ?_; rintro e w1 ⟨rfl, b1⟩
            go_wp2_with fail
            refine (implFormatInt_any _ _ (by omega)).mono ?_; rintro e w2 ⟨rfl, b2⟩
            have b12 := below_then b1 b2
            have hown2 := hown.below b12
            have hB2 := below_then hB b12
            have hs2 := hB2.size
            have hlen : (arcsT m k).length < 1099511627776 := by omega
            clear hown hB b1 b2 b12 c0
            go_wp2_with (at_builtin; rw [HT.out]; refine wpList_appR (f := sf) _ rfl _ _ 64 rfl w.heap.size 9 (sf []) 16 Try.underlying64 info_str rfl (by omega) _ _ rfl hown2 (arcT m k) rfl rfl rfl hlen hs2 ?_)
            intro v' w3 hown3 hg3 hat3
            have hB3 := below_of_own hB2 hg3 hs2 (fun g hg => (hown2.lt g hg).1)
            clear hown2 hg3 hat3
            go_wp2_with fail
            go_roundw
            case rel => exact ⟨k + 1, by omega, by go_num, by rw [HN.out]; exact hown3, hB3⟩
            case measure => simp [intOf]; omega
          · have HN := Lib.hid (HS.out.trans (by rw [if_neg hu, List.append_nil]))
            clear hg hj
            go_wp2_with fail
            go_roundw
            case rel => exact ⟨k + 1, by omega, by go_num, by rw [HN.out]; exact hown, hB⟩
            case measure => simp [intOf]; omega
        · have hke : k = m.length := by omega
          subst hke
          have hrd := Lib.hid hown.rd
          have hal := arcsT_len m m.length
          go_wp2_with fail
          refine (glued_any _ _ [32] _ hrd.out (fun i hi => by have := (arcsT_mem (List.getElem_mem hi)).1; simp; omega) (by omega)).mono ?_; rintro e w2 ⟨rfl, rfl⟩
          go_wp2_with fail
          go_ret
          exact RetS.mk (by rw [HV.out]; rfl) hB
  · simp only [decide_eq_false hP] at HP0
    have HV := Lib.hid (show fmR m = [] by unfold fmR; rw [if_neg hP])
    clear hP
    go_enter Try.func122, Try.ntmps122
    go_wp2_with fail
    refine HP0.mono ?_; rintro e w1 ⟨rfl, q, rfl⟩
    go_wp2_with fail
    go_ret
    exact RetS.mk (by rw [HV.out]; rfl) (below_draws _ _)
end Go.Proofs.Ytnkkgfeegaiakaa
