/- Contracts of Avoiders, the program's and the reference's: both return the permutations that avoid the pattern, in order. No condition but the pattern's size. -/
import Derived.Test.YtnkkgfeegaiakaaRowsOk
import Derived.Test.YtnkkgfeegaiakaaPermTriple
import Derived.Test.YtnkkgfeegaiakaaSSMark
namespace Go.Proofs.Ytnkkgfeegaiakaa
open Go.RowKit
/-- all rows of n numbers below n, each at most once, that begin with p -/
def extL (n : Nat) : Nat → List Int → List (List Int)
  | 0, p => [p]
  | f + 1, p => (List.range n).flatMap fun (x : Nat) => if (x : Int) ∈ p then [] else extL n f (p ++ [(x : Int)])
def exK (n f : Nat) (p : List Int) (k : Nat) : List (List Int) := (List.range k).flatMap fun (x : Nat) => if (x : Int) ∈ p then [] else extL n f (p ++ [(x : Int)])
theorem exK_succ (n f : Nat) (p : List Int) (k : Nat) : exK n f p (k + 1) = exK n f p k ++ (if (k : Int) ∈ p then [] else extL n f (p ++ [(k : Int)])) := by simp [exK, List.range_succ]
theorem extL_len {n : Nat} (hn : n ≤ 5) : ∀ (f : Nat) (p : List Int), (extL n f p).length ≤ 5 ^ f := by
  intro f
  induction f with
  | zero => intro p; simp [extL]
  | succ f ih =>
    intro p
    have h : ∀ k, (exK n f p k).length ≤ k * 5 ^ f := by
      intro k
      induction k with
      | zero => simp [exK]
      | succ k ihk =>
        rw [exK_succ, List.length_append]
        have : (if (k : Int) ∈ p then [] else extL n f (p ++ [(k : Int)])).length ≤ 5 ^ f := by
          split
          · simp
          · exact ih _
        have e : (k + 1) * 5 ^ f = k * 5 ^ f + 5 ^ f := Nat.succ_mul _ _
        omega
    have := h n
    have e : 5 ^ (f + 1) = 5 * 5 ^ f := by rw [Nat.pow_succ, Nat.mul_comm]
    have h2 : n * 5 ^ f ≤ 5 * 5 ^ f := Nat.mul_le_mul_right _ hn
    show (exK n f p n).length ≤ _
    omega
theorem exK_le {n : Nat} (hn : n ≤ 5) (f : Nat) (p : List Int) (k : Nat) : (exK n f p k).length ≤ k * 5 ^ f := by
  induction k with
  | zero => simp [exK]
  | succ k ihk =>
    rw [exK_succ, List.length_append]
    have : (if (k : Int) ∈ p then [] else extL n f (p ++ [(k : Int)])).length ≤ 5 ^ f := by
      split
      · simp
      · exact extL_len hn _ _
    have e : (k + 1) * 5 ^ f = k * 5 ^ f + 5 ^ f := Nat.succ_mul _ _
    omega
theorem exK_len {n : Nat} (hn : n ≤ 5) (f : Nat) (hf : f ≤ 5) (p : List Int) (k : Nat) (hk : k ≤ 5) : (exK n f p k).length ≤ 15625 := by
  have h : ∀ k, (exK n f p k).length ≤ k * 5 ^ f := by
    intro k
    induction k with
    | zero => simp [exK]
    | succ k ihk =>
      rw [exK_succ, List.length_append]
      have : (if (k : Int) ∈ p then [] else extL n f (p ++ [(k : Int)])).length ≤ 5 ^ f := by
        split
        · simp
        · exact extL_len hn _ _
      have e : (k + 1) * 5 ^ f = k * 5 ^ f + 5 ^ f := Nat.succ_mul _ _
      omega
  have h1 := h k
  have h2 : 5 ^ f ≤ 5 ^ 5 := Nat.pow_le_pow_right (by omega) hf
  have h3 : k * 5 ^ f ≤ 5 * 5 ^ 5 := Nat.mul_le_mul hk h2
  omega
/-- each row has n numbers -/
theorem extL_row {n : Nat} : ∀ (f : Nat) (p : List Int), p.length + f = n → ∀ q ∈ extL n f p, q.length = n := by
  intro f
  induction f with
  | zero => intro p h q hq; obtain rfl : q = p := by simpa [extL] using hq
            omega
  | succ f ih =>
    intro p h q hq
    obtain ⟨x, _, hx⟩ := List.mem_flatMap.1 hq
    split at hx
    · cases hx
    · exact ih (p ++ [(x : Int)]) (by simp; omega) q hx
theorem avo_succ {Ps : List (Value × List Int)} (g : List Int → Bool) {k : Nat} (h : k < Ps.length) : (Ps.take (k + 1)).filter (fun q => g q.2) = (Ps.take k).filter (fun q => g q.2) ++ (if g Ps[k].2 = true then [Ps[k]] else []) := by
  rw [take_succ_get _ _ h, List.filter_append]
  congr 1
  by_cases e : g Ps[k].2 = true
  · rw [if_pos e, List.filter_cons_of_pos (by exact e)]; rfl
  · rw [if_neg e, List.filter_cons_of_neg (by exact e)]; rfl
theorem map_filter_snd (g : List Int → Bool) (Ps : List (Value × List Int)) : (Ps.filter (fun q => g q.2)).map (·.2) = (Ps.map (·.2)).filter g := by
  rw [List.filter_map]; rfl
/-- whether a row avoids the pattern -/
def avo (pat : List UInt8) (p : List Int) : Bool := if pat = [50, 51, 49] then !decide (TripR R231 p) else !decide (TripR R321 p)
def avR (n : Int) (pat : List UInt8) : List (List Int) × Bool := if (0 ≤ n ∧ n ≤ 5) ∧ (pat = [50, 51, 49] ∨ pat = [51, 50, 49]) then ((extL n.toNat n.toNat []).filter (avo pat), true) else ([], false)
theorem off_le_mul {xss : List (List Int)} {B : Nat} (h : ∀ q ∈ xss, q.length ≤ B) : off xss xss.length ≤ xss.length * B := by
  unfold off
  refine sumTo_le fun i hi => ?_
  rw [rowOf_get hi]
  exact h _ (List.getElem_mem hi)
theorem avR_off (n : Int) (pat : List UInt8) : off (avR n pat).1 (avR n pat).1.length ≤ 100000 := by
  unfold avR
  split
  · rename_i h
    obtain ⟨m, hm⟩ := Int.eq_ofNat_of_zero_le h.1.1
    subst hm
    have hm5 : m ≤ 5 := by omega
    rw [Int.toNat_natCast]
    have h1 : (extL m m []).length ≤ 5 ^ 5 := Nat.le_trans (extL_len hm5 m []) (Nat.pow_le_pow_right (by omega) hm5)
    have h2 := List.length_filter_le (avo pat) (extL m m [])
    have h3 := off_le_mul (xss := (extL m m []).filter (avo pat)) (B := 5) (fun q hq => by
      have := extL_row (n := m) m [] (by simp) q (List.mem_filter.1 hq).1
      omega)
    show off ((extL m m []).filter (avo pat)) ((extL m m []).filter (avo pat)).length ≤ _
    omega
  · simp [off, sumTo]
theorem mem_take_succ_iff {p : List Int} {j : Nat} (h : j < p.length) (x : Int) : decide (x ∈ p.take (j + 1)) = (decide (x ∈ p.take j) || decide (x = p[j])) := by
  rw [take_succ_get _ _ h, Bool.eq_iff_iff]
  simp only [decide_eq_true_eq, Bool.or_eq_true, List.mem_append, List.mem_singleton]
/-- what a call leaves that returns rows of its own and of its argument -/
def RetRows (w : World) (b : Nat) (R : List (List Int)) (e : Ending) (w' : World) : Prop := ∃ r Ps, e = .returned r ∧ Spine w' w.heap.size r Ps ∧ RowsOk w' b Ps ∧ Ps.map (·.2) = R ∧ Below w.heap.size w w'
set_option maxHeartbeats 1600000 in
theorem l10All_any (n : Nat) (hn : n ≤ 5) : ∀ (f : Nat) (p : List Int) (w : World) (b : Nat) (pv : Value), p.length + f = n → OwI w b pv p → b ≤ w.heap.size →
    Calls Try.prog 202 #[.int .i64 (n : Int), pv] w (RetRows w b (extL n f p)) := by
  intro f
  induction f with
  | zero =>
    intro p w b pv hf hp hb
    have hB : Below w.heap.size w (w.alloc (.cells #[pv] 38)) := (Below.refl _ _).alloc (Nat.le_refl _) _
    have HS := Lib.hid (Spine.one_ w w.heap.size (Nat.le_refl _) (pv, p))
    have HR := Lib.hid (show RowsOk _ b [(pv, p)] from RowsOk.one_ (hp.below hB))
    have f1 : ((p.length : Int) == (n : Int)) = true := beq_iff_eq.2 (by omega)
    obtain ⟨A, c, rfl, _⟩ := id hp.rd
    have HB := Lib.hid hB
    clear hf hp hB
    go_enter Try.func202, Try.ntmps202
    go_wp2_with fail
    go_ret
    exact ⟨_, _, rfl, HS.out, HR.out, rfl, HB.out⟩
  | succ f ih =>
    intro p w b pv hf hp hb
    have HPV := Lib.hid hp
    have f1 : ((p.length : Int) == (n : Int)) = false := beq_eq_false_iff_ne.2 (by omega)
    have hf5 : f ≤ 5 := by omega
    have hpl : p.length ≤ 5 := by omega
    have HF := Lib.hid hf
    obtain ⟨A, c, rfl, _⟩ := id hp.rd
    have sp0 := Spine.empty_ w w.heap.size (Nat.le_refl _)
    have B0 : Below w.heap.size w (w.alloc (.cells #[] 38)) := (Below.refl _ _).alloc (Nat.le_refl _) _
    clear hf hp
    go_enter Try.func202, Try.ntmps202
    go_wp2_with fail
    generalize w.alloc (.cells #[] 38) = w0 at sp0 B0 ⊢
    go_loopw [5, 6] (fun v x wr => ∃ (k : Nat) (Ps : List (Value × List Int)), k ≤ n ∧ x = .int .i64 (k : Int) ∧ Spine wr w.heap.size v Ps ∧ RowsOk wr w.heap.size Ps ∧ Hid (Ps.map (·.2) = exK n f p k) ∧ Below w.heap.size w wr) (fun _ x _ => n - (intOf x).toNat)
    case atStart => exact ⟨0, [], by omega, rfl, sp0, RowsOk.nil_ _ _, rfl, B0⟩
    case round =>
      clear sp0 B0
      obtain ⟨k, Ps, hk, rfl, hsp, hrow, HE, hB⟩ := hrel
      have hsz := hB.size
      have hPl : Ps.length ≤ 15625 := by
        have := congrArg List.length HE.out
        rw [List.length_map] at this
        rw [this]
        exact exK_len hn f hf5 p k (by omega)
      by_cases hlt : k < n
      · have HP := Lib.hid (HPV.out.below hB)
        have HSP := Lib.hid hsp
        have HRW := Lib.hid hrow
        have HBW := Lib.hid hB
        obtain ⟨vA, vc, rfl⟩ := hsp.shape
        clear hsp hrow hB
        go_wp2_with fail
        go_loop [7, 8] (fun u i => ∃ j : Nat, j ≤ p.length ∧ i = .int .i64 (j : Int) ∧ u = .bool (decide ((k : Int) ∈ p.take j))) (fun _ i => p.length - (intOf i).toNat)
        case atStart => exact ⟨0, by omega, rfl, by simp only [List.take_zero, List.not_mem_nil, decide_false]⟩
        case round =>
          obtain ⟨j, hj, rfl, rfl⟩ := hrel
          by_cases hjl : j < p.length
          · have HM := Lib.hid (mem_take_succ_iff hjl (k : Int))
            obtain ⟨b0, o0, rfl, hb0, hcl⟩ := HP.out.rd.at_ (by omega)
            have c1 := hcl j hjl
            generalize p[j] = y at c1 HM
            have HC := Lib.hid (show (y == (k : Int)) = decide ((k : Int) = y) by
              by_cases h : y = (k : Int)
              · subst h; simp
              · rw [beq_eq_false_iff_ne.2 h, decide_eq_false (fun e => h e.symm)])
            generalize hd : decide ((k : Int) ∈ p.take j) = d at HM ⊢
            clear hcl hd
            rcases d with _ | _
            · go_wp2_with fail
              go_round
              case rel => exact ⟨j + 1, by omega, by go_num, by rw [HM.out, HC.out, Bool.false_or]⟩
              case measure => simp [intOf]; omega
            · go_wp2_with fail
              go_round
              case rel => exact ⟨j + 1, by omega, by go_num, by rw [HM.out, Bool.true_or]⟩
              case measure => simp [intOf]; omega
          · have hje : j = p.length := by omega
            subst hje
            rw [List.take_length]
            have HX := Lib.hid (exK_succ n f p k)
            by_cases hm : (k : Int) ∈ p
            · rw [decide_eq_true hm]
              have HN := Lib.hid (show Ps.map (·.2) = exK n f p (k + 1) by rw [HX.out, if_pos hm, List.append_nil]; exact HE.out)
              clear hm hj hjl
              go_wp2_with fail
              go_roundw
              case rel => exact ⟨k + 1, Ps, by omega, by go_num, HSP.out, HRW.out, HN.out, HBW.out⟩
              case measure => simp [intOf]; omega
            · rw [decide_eq_false hm]
              have HN := Lib.hid (show exK n f p (k + 1) = exK n f p k ++ extL n f (p ++ [(k : Int)]) by rw [HX.out, if_neg hm])
              clear hm hj hjl
              have hown0 := OwI.empty_ wr wr.heap.size (Nat.le_refl _)
              have hb1 : Below wr.heap.size wr (wr.alloc (.cells #[] 3)) := (Below.refl _ _).alloc (Nat.le_refl _) _
              have hrd := HP.out.rd.below hb1
              have hl0 : ([] : List Int).length + p.length ≤ 1099511627776 := by simp; omega
              go_wp2_with (at_builtin; refine wpList_appRow (f := Value.int .i64) _ rfl _ _ 38 rfl wr.heap.size 3 (.int .i64 0) 8 Try.underlying38 info_int rfl (by omega) _ [] p rfl hown0 A c rfl hrd (fun _ => rfl) hl0 hb1.size ?_)
              intro v1 w1 o1 g1 a1
              have B1 := below_of_own hb1 g1 hb1.size (fun g hg => (hown0.lt g hg).1)
              have hs1 := B1.size
              have o1 := OwI_is.2 o1
              clear hown0 g1 a1 hb1 hrd
              obtain ⟨A1, c1, rfl, _⟩ := id o1.rd
              have hl1 : p.length < 1099511627776 := by omega
              go_wp2_with (at_builtin; refine wpList_appI _ rfl _ _ rfl wr.heap.size _ _ rfl o1 _ rfl rfl hl1 hs1 ?_)
              intro v2 w2 o2 g2 a2
              have B2 := below_of_own B1 g2 hs1 (fun g hg => (OwI.lt o1 g hg).1)
              have hs2 := B2.size
              clear o1 g2 a2 B1
              go_wp2_with fail
              refine (ih (p ++ [(k : Int)]) w2 wr.heap.size v2 (by simp; have := HF.out; omega) (by simpa using o2) hs2).mono ?_; rintro e w3 ⟨r, Qs, rfl, s3, r3, e3, b3⟩
              have B3 := below_then B2 b3
              have sP := HSP.out.below B3
              have rP := HRW.out.below B3
              have hQl : Qs.length ≤ 3125 := by
                have := congrArg List.length e3
                rw [List.length_map] at this
                rw [this]
                exact Nat.le_trans (extL_len hn f _) (Nat.pow_le_pow_right (by omega) hf5)
              have HQ := Lib.hid (show (Ps ++ Qs).map (·.2) = exK n f p (k + 1) by rw [List.map_append, HE.out, e3, HN.out])
              have BW := below_then HBW.out B3
              have hs3 := BW.size
              have s3' := s3.mono hs2
              have HAP := Lib.hid (show ∀ x ∈ Ps, ∀ y ∈ Qs, Apart x.1 y.1 from fun x hx y hy g h1 h2 => by
                have := ((HRW.out.1 x hx).lt g h1).2
                have := ((r3.1 y hy).lt g h2).1
                omega)
              obtain ⟨rA, rc, rfl⟩ := s3.shape
              have hlen : Ps.length + Qs.length ≤ 1099511627776 := by omega
              clear o2 B2 b3 B3 s3 e3 hPl hQl
              go_wp2_with (at_builtin; refine wpList_appSps _ rfl _ _ rfl w.heap.size wr.heap.size w.heap.size _ Ps Qs rfl sP rP rA rc rfl s3' r3 hlen hs3 ?_)
              intro v4 w4 s4 g4 a4
              have B4 := below_of_own BW g4 hs3 (fun g hg => (sP.lt g hg).1)
              have HR4 := Lib.hid ((rP.append_ (r3.mono hsz) HAP.out).spine sP g4)
              obtain ⟨A4, c4, rfl⟩ := s4.shape
              clear g4 a4 sP rP r3 s3' BW
              go_wp2_with fail
              go_roundw
              case rel => exact ⟨k + 1, Ps ++ Qs, by omega, by go_num, s4, HR4.out, HQ.out, B4⟩
              case measure => simp [intOf]; omega
      · have hke : k = n := by omega
        subst hke
        obtain ⟨vA, vc, rfl⟩ := hsp.shape
        go_wp2_with fail
        go_ret
        exact ⟨_, Ps, rfl, hsp, hrow.mono hb, HE.out, hB⟩
set_option maxHeartbeats 1600000 in
theorem specAvoiders_any (n : Int) (pat : ByteArray) (w : World) (_hp : pat.size ≤ 1099511627776) :
    Calls Try.prog 74 #[.int .i64 n, .string pat] w (RetSSB w (avR n pat.toList)) := by
  have sp0 := Spine.empty_ w w.heap.size (Nat.le_refl _)
  have hB0 : Below w.heap.size w (w.alloc (.cells #[] 38)) := (Below.refl _ _).alloc (Nat.le_refl _) _
  by_cases h : 0 ≤ n ∧ n ≤ 5
  · obtain ⟨m, rfl⟩ := Int.eq_ofNat_of_zero_le h.1
    have hm5 : m ≤ 5 := by omega
    by_cases hpats : pat.toList = [50, 51, 49] ∨ pat.toList = [51, 50, 49]
    · rcases hpats with hpat | hpat
      · have fa : (pat.toList == [50, 51, 49]) = true := beq_iff_eq.2 hpat
        have fb : (pat.toList != [50, 51, 49]) = false := by rw [hpat]; rfl
        have fc : (pat.toList == [51, 50, 49]) = false := by rw [hpat]; rfl
        have fd : (pat.toList != [51, 50, 49]) = true := by rw [hpat]; rfl
        have HAV := Lib.hid (show ∀ p, avo pat.toList p = !decide (TripR R231 p) from fun p => by unfold avo; rw [hpat]; rfl)
        have HV := Lib.hid (show avR (m : Int) pat.toList = ((extL m m []).filter (avo pat.toList), true) by unfold avR; rw [if_pos ⟨h, by rw [hpat]; decide⟩, Int.toNat_natCast])
        clear hpat
        have hz1 : (w.alloc (.cells #[] 38)).heap.size = w.heap.size + 1 := by simp
        have hz2 : w.heap.size ≤ ((w.alloc (.cells #[] 38)).alloc (.cells #[] 3)).heap.size := Nat.le_trans hB0.size (by simp)
        have hoe := OwI.empty_ (w.alloc (.cells #[] 38)) w.heap.size hB0.size
        rw [hz1] at hoe
        have HL := Lib.hid (l10All_any m hm5 m [] _ w.heap.size _ (Nat.zero_add m) hoe hz2)
        clear hz1 hoe
        go_enter Try.func74, Try.ntmps74
        go_wp2_with (go_at_call 185; refine (l1In_yes _ _ _ _ (by omega) (by omega)).mono ?_; rintro e w' ⟨rfl, rfl⟩)
        refine HL.out.mono ?_; rintro e w1 ⟨r, Ps, rfl, hs1, hr1, he1, hb1⟩
        have B1 : Below w.heap.size w w1 := below_then (hB0.alloc hB0.size _) hb1
        have sp1 := (sp0.below ((Below.refl _ _).alloc (Nat.le_refl _) (.cells #[] 3))).below hb1
        have HE := Lib.hid he1
        have hPl : Ps.length ≤ 3125 := by
          have := congrArg List.length he1
          rw [List.length_map] at this
          rw [this]
          exact Nat.le_trans (extL_len hm5 m []) (Nat.pow_le_pow_right (by omega) hm5)
        have hap0 : Apart (.slice (some ⟨w.heap.size, 0, none⟩) 0 0) r := fun g h1 h2 => by
          have := (hs1.lt g h2).1
          simp [Value.ownBlock] at h1 this
          omega
        have hs1 := hs1.mono hz2
        obtain ⟨lA, lc, rfl⟩ := hs1.shape
        clear sp0 hB0 he1 hb1
        go_wp2_with fail
        go_loopw [6, 8] (fun v x wr => ∃ k : Nat, k ≤ Ps.length ∧ x = .int .i64 (k : Int) ∧ Spine wr w.heap.size v ((Ps.take k).filter (fun q => avo pat.toList q.2)) ∧ Spine wr w.heap.size (.slice lA Ps.length lc) Ps ∧ Apart v (.slice lA Ps.length lc) ∧ RowsOk wr w.heap.size Ps ∧ Below w.heap.size w wr) (fun _ x _ => Ps.length - (intOf x).toNat)
        case atStart => exact ⟨0, by omega, rfl, sp1, hs1, hap0, hr1, B1⟩
        case round =>
          clear sp1 hs1 hap0 hr1 B1
          obtain ⟨k, hk, rfl, hsp, hls, hap, hrow, hB⟩ := hrel
          have hsz := hB.size
          by_cases hlt : k < Ps.length
          · have HT := Lib.hid (avo_succ (avo pat.toList) hlt)
            have hq := hrow.1 Ps[k] (List.getElem_mem hlt)
            have hone := hq.oneCell
            obtain ⟨b0, o0, hlA, hb0, hcl⟩ := RdR.at_ (OwR.rd hls) (by rw [List.length_map]; omega)
            subst hlA
            have c1 := hcl k (by simpa using hlt)
            simp only [List.getElem_map, id] at c1
            have HLS := Lib.hid hls
            have HRW := Lib.hid hrow
            have HAP := Lib.hid hap
            clear hcl hls hrow hap
            obtain ⟨qA, qc, hqe, _⟩ := id hq.rd
            have hc := to_below (specContains231_any _ _ wr hq.rd)
            generalize Ps[k] = q at c1 HT hq hone hqe hc
            obtain ⟨qv, qp⟩ := q
            simp only at c1 hq hone hqe hc
            subst hqe
            have hlen : ((Ps.take k).filter (fun q => avo pat.toList q.2)).length < 1099511627776 := by
              have h1 := List.length_filter_le (fun (q : Value × List Int) => avo pat.toList q.2) (Ps.take k)
              rw [List.length_take] at h1
              omega
            obtain ⟨vA, vc, rfl⟩ := hsp.shape
            by_cases hT : TripR R231 qp
            · rw [decide_eq_true hT] at hc
              have HC := Lib.hid hc
              have HN := Lib.hid (show (Ps.take (k + 1)).filter (fun q => avo pat.toList q.2) = (Ps.take k).filter (fun q => avo pat.toList q.2) by rw [HT.out]; rw [if_neg (by rw [HAV.out, decide_eq_true hT]; simp), List.append_nil])
              clear hT hc HT hq
              generalize hfl : (Ps.take k).filter (fun q => avo pat.toList q.2) = Fs at hsp HN hlen HAP
              go_wp2_with (go_at_call 78; refine HC.out.mono ?_; rintro e w2 ⟨rfl, b2⟩)
              go_roundw
              case rel => exact ⟨k + 1, by omega, by go_num, by rw [HN.out]; exact hsp.below b2, HLS.out.below b2, HAP.out, HRW.out.below b2, below_then hB b2⟩
              case measure => simp [intOf]; omega
            · rw [decide_eq_false hT] at hc
              have HC := Lib.hid hc
              have HN := Lib.hid (show (Ps.take (k + 1)).filter (fun q => avo pat.toList q.2) = (Ps.take k).filter (fun q => avo pat.toList q.2) ++ [(.slice qA qp.length qc, qp)] by rw [HT.out]; rw [if_pos (by rw [HAV.out, decide_eq_false hT]; rfl)])
              clear hT hc HT
              generalize hfl : (Ps.take k).filter (fun q => avo pat.toList q.2) = Fs at hsp HN hlen HAP
              have hsp0 := Lib.hid hsp
              clear hsp
              go_wp2_with (first
                | (go_at_call 78; refine HC.out.mono ?_; rintro e w2 ⟨rfl, b2⟩; have c2 := (b2.cell (p := ⟨b0, o0 + k, none⟩) hb0).trans c1)
                | (at_builtin; refine wpList_appSp _ rfl _ _ rfl w.heap.size _ Fs rfl (hsp0.out.below b2) (.slice qA qp.length qc, qp) rfl rfl rfl hlen (Nat.le_trans hsz b2.size) ?_))
              intro v3 w3 s3 g3 a3
              have B2 := below_then hB b2
              have B3 := below_of_own B2 g3 B2.size (fun g hg => (hsp0.out.lt g hg).1)
              have R3 := OwR.after_app (HLS.out.below b2) HAP.out g3 a3
              have HR3 := Lib.hid R3
              have HRW3 := Lib.hid ((HRW.out.below b2).spine (hsp0.out.below b2) g3)
              obtain ⟨A3, c3, rfl⟩ := s3.shape
              clear R3 g3 a3 B2 hB c1 c2 hq
              go_wp2_with fail
              go_roundw
              case rel => exact ⟨k + 1, by omega, by go_num, by rw [HN.out]; exact s3, HR3.out.1, HR3.out.2, HRW3.out, B3⟩
              case measure => simp [intOf]; omega
          · have hke : k = Ps.length := by omega
            subst hke
            rw [List.take_length] at hsp
            have HSS := Lib.hid (hsp.ss (hrow.sub List.filter_sublist))
            have HV2 := Lib.hid (show avR (m : Int) pat.toList = ((Ps.filter (fun q => avo pat.toList q.2)).map (·.2), true) by rw [HV.out, map_filter_snd, HE.out])
            obtain ⟨vA, vc, rfl⟩ := hsp.shape
            clear hls hsp hrow
            go_wp2_with fail
            go_ret2
            exact RetSSB.mk HV2.out HSS.out hB
      · have fa : (pat.toList == [51, 50, 49]) = true := beq_iff_eq.2 hpat
        have fb : (pat.toList != [51, 50, 49]) = false := by rw [hpat]; rfl
        have fc : (pat.toList == [50, 51, 49]) = false := by rw [hpat]; rfl
        have fd : (pat.toList != [50, 51, 49]) = true := by rw [hpat]; rfl
        have HAV := Lib.hid (show ∀ p, avo pat.toList p = !decide (TripR R321 p) from fun p => by unfold avo; rw [hpat]; rfl)
        have HV := Lib.hid (show avR (m : Int) pat.toList = ((extL m m []).filter (avo pat.toList), true) by unfold avR; rw [if_pos ⟨h, by rw [hpat]; decide⟩, Int.toNat_natCast])
        clear hpat
        have hz1 : (w.alloc (.cells #[] 38)).heap.size = w.heap.size + 1 := by simp
        have hz2 : w.heap.size ≤ ((w.alloc (.cells #[] 38)).alloc (.cells #[] 3)).heap.size := Nat.le_trans hB0.size (by simp)
        have hoe := OwI.empty_ (w.alloc (.cells #[] 38)) w.heap.size hB0.size
        rw [hz1] at hoe
        have HL := Lib.hid (l10All_any m hm5 m [] _ w.heap.size _ (Nat.zero_add m) hoe hz2)
        clear hz1 hoe
        go_enter Try.func74, Try.ntmps74
        go_wp2_with (go_at_call 185; refine (l1In_yes _ _ _ _ (by omega) (by omega)).mono ?_; rintro e w' ⟨rfl, rfl⟩)
        refine HL.out.mono ?_; rintro e w1 ⟨r, Ps, rfl, hs1, hr1, he1, hb1⟩
        have B1 : Below w.heap.size w w1 := below_then (hB0.alloc hB0.size _) hb1
        have sp1 := (sp0.below ((Below.refl _ _).alloc (Nat.le_refl _) (.cells #[] 3))).below hb1
        have HE := Lib.hid he1
        have hPl : Ps.length ≤ 3125 := by
          have := congrArg List.length he1
          rw [List.length_map] at this
          rw [this]
          exact Nat.le_trans (extL_len hm5 m []) (Nat.pow_le_pow_right (by omega) hm5)
        have hap0 : Apart (.slice (some ⟨w.heap.size, 0, none⟩) 0 0) r := fun g h1 h2 => by
          have := (hs1.lt g h2).1
          simp [Value.ownBlock] at h1 this
          omega
        have hs1 := hs1.mono hz2
        obtain ⟨lA, lc, rfl⟩ := hs1.shape
        clear sp0 hB0 he1 hb1
        go_wp2_with fail
        go_loopw [6, 8] (fun v x wr => ∃ k : Nat, k ≤ Ps.length ∧ x = .int .i64 (k : Int) ∧ Spine wr w.heap.size v ((Ps.take k).filter (fun q => avo pat.toList q.2)) ∧ Spine wr w.heap.size (.slice lA Ps.length lc) Ps ∧ Apart v (.slice lA Ps.length lc) ∧ RowsOk wr w.heap.size Ps ∧ Below w.heap.size w wr) (fun _ x _ => Ps.length - (intOf x).toNat)
        case atStart => exact ⟨0, by omega, rfl, sp1, hs1, hap0, hr1, B1⟩
        case round =>
          clear sp1 hs1 hap0 hr1 B1
          obtain ⟨k, hk, rfl, hsp, hls, hap, hrow, hB⟩ := hrel
          have hsz := hB.size
          by_cases hlt : k < Ps.length
          · have HT := Lib.hid (avo_succ (avo pat.toList) hlt)
            have hq := hrow.1 Ps[k] (List.getElem_mem hlt)
            have hone := hq.oneCell
            obtain ⟨b0, o0, hlA, hb0, hcl⟩ := RdR.at_ (OwR.rd hls) (by rw [List.length_map]; omega)
            subst hlA
            have c1 := hcl k (by simpa using hlt)
            simp only [List.getElem_map, id] at c1
            have HLS := Lib.hid hls
            have HRW := Lib.hid hrow
            have HAP := Lib.hid hap
            clear hcl hls hrow hap
            obtain ⟨qA, qc, hqe, _⟩ := id hq.rd
            have hc := to_below (specContains321_any _ _ wr hq.rd)
            generalize Ps[k] = q at c1 HT hq hone hqe hc
            obtain ⟨qv, qp⟩ := q
            simp only at c1 hq hone hqe hc
            subst hqe
            have hlen : ((Ps.take k).filter (fun q => avo pat.toList q.2)).length < 1099511627776 := by
              have h1 := List.length_filter_le (fun (q : Value × List Int) => avo pat.toList q.2) (Ps.take k)
              rw [List.length_take] at h1
              omega
            obtain ⟨vA, vc, rfl⟩ := hsp.shape
            by_cases hT : TripR R321 qp
            · rw [decide_eq_true hT] at hc
              have HC := Lib.hid hc
              have HN := Lib.hid (show (Ps.take (k + 1)).filter (fun q => avo pat.toList q.2) = (Ps.take k).filter (fun q => avo pat.toList q.2) by rw [HT.out]; rw [if_neg (by rw [HAV.out, decide_eq_true hT]; simp), List.append_nil])
              clear hT hc HT hq
              generalize hfl : (Ps.take k).filter (fun q => avo pat.toList q.2) = Fs at hsp HN hlen HAP
              go_wp2_with (go_at_call 79; refine HC.out.mono ?_; rintro e w2 ⟨rfl, b2⟩)
              go_roundw
              case rel => exact ⟨k + 1, by omega, by go_num, by rw [HN.out]; exact hsp.below b2, HLS.out.below b2, HAP.out, HRW.out.below b2, below_then hB b2⟩
              case measure => simp [intOf]; omega
            · rw [decide_eq_false hT] at hc
              have HC := Lib.hid hc
              have HN := Lib.hid (show (Ps.take (k + 1)).filter (fun q => avo pat.toList q.2) = (Ps.take k).filter (fun q => avo pat.toList q.2) ++ [(.slice qA qp.length qc, qp)] by rw [HT.out]; rw [if_pos (by rw [HAV.out, decide_eq_false hT]; rfl)])
              clear hT hc HT
              generalize hfl : (Ps.take k).filter (fun q => avo pat.toList q.2) = Fs at hsp HN hlen HAP
              have hsp0 := Lib.hid hsp
              clear hsp
              go_wp2_with (first
                | (go_at_call 79; refine HC.out.mono ?_; rintro e w2 ⟨rfl, b2⟩; have c2 := (b2.cell (p := ⟨b0, o0 + k, none⟩) hb0).trans c1)
                | (at_builtin; refine wpList_appSp _ rfl _ _ rfl w.heap.size _ Fs rfl (hsp0.out.below b2) (.slice qA qp.length qc, qp) rfl rfl rfl hlen (Nat.le_trans hsz b2.size) ?_))
              intro v3 w3 s3 g3 a3
              have B2 := below_then hB b2
              have B3 := below_of_own B2 g3 B2.size (fun g hg => (hsp0.out.lt g hg).1)
              have R3 := OwR.after_app (HLS.out.below b2) HAP.out g3 a3
              have HR3 := Lib.hid R3
              have HRW3 := Lib.hid ((HRW.out.below b2).spine (hsp0.out.below b2) g3)
              obtain ⟨A3, c3, rfl⟩ := s3.shape
              clear R3 g3 a3 B2 hB c1 c2 hq
              go_wp2_with fail
              go_roundw
              case rel => exact ⟨k + 1, by omega, by go_num, by rw [HN.out]; exact s3, HR3.out.1, HR3.out.2, HRW3.out, B3⟩
              case measure => simp [intOf]; omega
          · have hke : k = Ps.length := by omega
            subst hke
            rw [List.take_length] at hsp
            have HSS := Lib.hid (hsp.ss (hrow.sub List.filter_sublist))
            have HV2 := Lib.hid (show avR (m : Int) pat.toList = ((Ps.filter (fun q => avo pat.toList q.2)).map (·.2), true) by rw [HV.out, map_filter_snd, HE.out])
            obtain ⟨vA, vc, rfl⟩ := hsp.shape
            clear hls hsp hrow
            go_wp2_with fail
            go_ret2
            exact RetSSB.mk HV2.out HSS.out hB
    · have HV := Lib.hid (show avR (m : Int) pat.toList = ([], false) by unfold avR; rw [if_neg (fun q => hpats q.2)])
      have fa : (pat.toList == [50, 51, 49]) = false := beq_eq_false_iff_ne.2 (fun e => hpats (.inl e))
      have fb : (pat.toList == [51, 50, 49]) = false := beq_eq_false_iff_ne.2 (fun e => hpats (.inr e))
      have HSS := Lib.hid (OwSS.empty2 w w.heap.size (Nat.le_refl _))
      clear hpats
      go_enter Try.func74, Try.ntmps74
      go_wp2_with (go_at_call 185; refine (l1In_yes _ _ _ _ (by omega) (by omega)).mono ?_; rintro e w' ⟨rfl, rfl⟩)
      go_ret2
      exact RetSSB.mk HV.out HSS.out hB0
  · have HV := Lib.hid (show avR n pat.toList = ([], false) by unfold avR; rw [if_neg (fun q => h q.1)])
    have HSS := Lib.hid (OwSS.empty2 w w.heap.size (Nat.le_refl _))
    go_enter Try.func74, Try.ntmps74
    go_wp2_with (go_at_call 185; refine (l1In_no _ _ _ _ h).mono ?_; rintro e w' ⟨rfl, rfl⟩)
    go_ret2
    exact RetSSB.mk HV.out HSS.out hB0
end Go.Proofs.Ytnkkgfeegaiakaa
