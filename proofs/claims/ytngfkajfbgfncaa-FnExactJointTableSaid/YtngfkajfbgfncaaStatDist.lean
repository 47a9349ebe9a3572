/- Contracts of DistributionOf, the program's and the reference's: both count the paths of a size by a statistic. Condition: the name's size. -/
import Derived.Test.YtngfkajfbgfncaaStatOf
import Derived.Test.YtngfkajfbgfncaaPathsL
import Derived.Test.YtngfkajfbgfncaaMarks
namespace Go.Proofs.Ytngfkajfbgfncaa
open Go.RowKit
instance (nm : List UInt8) : Decidable (isName nm) := by unfold isName; infer_instance
theorem cnt_first {f : Nat → Bool} (h : f 0 = true) (k : Nat) : 1 ≤ cnt (k + 1) f := by
  induction k with
  | zero => simp [cnt, sumTo, h]
  | succ k ih => rw [cnt_succ]; omega
theorem mxN_le {l : List UInt8} (h : DyckP l) : ∀ k, k ≤ l.length + 1 → mxN l k ≤ 16 := by
  intro k
  induction k with
  | zero => intro _; simp [mxN]
  | succ k ih =>
    intro hk
    have h1 := ih (by omega)
    have h2 := hN_le l h k (by omega)
    have h3 := h.1
    rw [mxN_succ]; omega
theorem statV_ok {nm l : List UInt8} (h : DyckP l) (hi : isName nm) : ∃ k : Nat, statV nm l = (k : Int) ∧ k < 1000 := by
  have h16 := h.1
  rcases hi with e | e | e | e | e | e | e | e | e
  · rw [statV_peaks h e]; unfold peaksV; rw [if_pos h]
    exact ⟨_, rfl, by have := pkN_le l l.length; omega⟩
  · rw [statV_returns h e]; unfold returnsV; rw [if_pos h]
    have h1 := rtN_le l (l.length + 1)
    have h2 : 1 ≤ rtN l (l.length + 1) := cnt_first (by simp [rtF, hN_zero]) _
    exact ⟨rtN l (l.length + 1) - 1, by omega, by omega⟩
  · rw [statV_rise h e]
    exact ⟨_, rfl, by have : runU l ≤ l.length := List.Sublist.length_le (List.takeWhile_sublist _); omega⟩
  · rw [statV_area h e]; unfold areaV; rw [if_pos h]
    exact ⟨_, rfl, by have := arN_le h l.length (Nat.le_refl _); omega⟩
  · rw [statV_depth h e]; unfold depthV
    exact ⟨_, rfl, by have := mxN_le h (l.length + 1) (Nat.le_refl _); omega⟩
  · rw [statV_leaves h e]
    exact ⟨_, rfl, by have := lvN_le (plS l).p (plS l).p.length; have := plS_le h; omega⟩
  · rw [statV_blocks h e]
    refine ⟨_, rfl, ?_⟩
    obtain ⟨pt, hq⟩ := QInv.all h l.length (Nat.le_refl _)
    have hl : ((parR l).1).length = l.length / 2 := by unfold parR; rw [if_pos h, rnL_len]; exact hq.len
    unfold blocksR
    by_cases hp : PartP (parR l).1
    · rw [if_pos hp]
      have h1 := bks_len hp _ (Nat.le_refl _)
      have h2 := nextOf_le_k _ hp _ (Nat.le_refl _)
      omega
    · rw [if_neg hp]; simp
  · rw [statV_major h e]; unfold majV; rw [if_pos h]
    refine ⟨_, rfl, ?_⟩
    have : sumTo l.length (majG l) ≤ l.length * 16 := sumTo_le fun i hi => by unfold majG; split <;> omega
    omega
  · rw [statV_fall h e]
    exact ⟨_, rfl, by have : runD l ≤ l.reverse.length := List.Sublist.length_le (List.takeWhile_sublist _); simp at this; omega⟩
/-- a statistic as a natural number -/
def stN (nm : List UInt8) (l : List UInt8) : Nat := (statV nm l).toNat
theorem stN_eq {nm l : List UInt8} (h : DyckP l) (hi : isName nm) : statV nm l = ((stN nm l : Nat) : Int) ∧ stN nm l < 1000 := by
  obtain ⟨k, e, hk⟩ := statV_ok h hi
  unfold stN
  rw [e, Int.toNat_natCast]
  exact ⟨rfl, hk⟩
def disV (nm : List UInt8) (n : Int) : List Int × Bool := if (0 ≤ n ∧ n ≤ 6) ∧ isName nm then (disF (stN nm) (pathsL n.toNat), true) else ([], false)
theorem padL_done (o : List Int) (x : Nat) {j : Nat} (h : j = x + 1 - o.length) : o ++ List.replicate j 0 = padL o x := by subst h; rfl
theorem padL_le (o : List Int) (x : Nat) : o ++ List.replicate (x + 1 - o.length) 0 = padL o x := rfl
theorem rep_snoc (o : List Int) (j : Nat) : (o ++ List.replicate j (0 : Int)) ++ [0] = o ++ List.replicate (j + 1) 0 := by
  rw [List.append_assoc]; congr 1; exact (List.replicate_succ' (n := j) (a := (0 : Int))).symm
theorem take_step {α : Type} (f : List UInt8 → Nat) {l : List (List UInt8)} {k : Nat} (h : k < l.length) (_ : α = α) : disF f (l.take (k + 1)) = incL (disF f (l.take k)) (f l[k]) := by
  rw [take_succ_get _ _ h, disF_snoc]
theorem pathsV_ok {n : Int} (h : 0 ≤ n ∧ n ≤ 6) : pathsV n = pathsL n.toNat ∧ n.toNat ≤ 6 := by
  unfold pathsV; rw [if_pos h]; exact ⟨rfl, by omega⟩
set_option maxHeartbeats 1600000 in
theorem specDistributionOf_any (nm : ByteArray) (n : Int) (w : World) (hn : nm.size ≤ 1099511627776) (hi64 : I64 n) :
    Calls Try.prog 203 #[.string nm, .int .i64 n] w (RetIB w (disV nm.toList n)) := by
  have own0 := OwI.empty_ w w.heap.size (Nat.le_refl _)
  have hB0 : Below w.heap.size w (w.alloc (.cells #[] 3)) := (Below.refl _ _).alloc (Nat.le_refl _) _
  by_cases h : 0 ≤ n ∧ n ≤ 6
  · obtain ⟨hpv, hn6⟩ := pathsV_ok h
    obtain ⟨ps, hps⟩ : ∃ ps, ps = pathsL n.toNat := ⟨_, rfl⟩
    have hpl := pathsL_len hn6
    have hp0 := pathsL_pos n.toNat
    rw [← hps] at hpl hp0
    have HD := Lib.hid (fun x (hx : x ∈ ps) => (pathsL_dyck hn6 (by rw [hps] at hx; exact hx)).1)
    have HS16 := Lib.hid (fun x (hx : x ∈ ps) => (pathsL_dyck hn6 (by rw [hps] at hx; exact hx)).1.1)
    have HP := Lib.hid (specPathsOf_any n (w.alloc (.cells #[] 3)) hi64)
    rw [hpv, ← hps] at HP
    by_cases hin : isName nm.toList
    · have HI := Lib.hid hin
      have HV := Lib.hid (show disV nm.toList n = (disF (stN nm.toList) ps, true) by unfold disV; rw [if_pos ⟨h, hin⟩, hps])
      have e0 := stN_eq (l := []) (nm := nm.toList) ⟨by simp, rfl⟩ hin
      have HE0 := Lib.hid (show statV nm.toList (L ⟨#[]⟩) = ((stN nm.toList [] : Nat) : Int) from e0.1)
      have fl : ((ps.length : Int) == 0) = false := beq_eq_false_iff_ne.2 (by omega)
      clear h hpv hps hin e0
      go_enter Try.func203, Try.ntmps203
      go_wp2_with fail
      refine HP.out.mono ?_; rintro e w1 ⟨r, rfl, o1, b1⟩
      have B1 := below_then hB0 b1
      have own1 := own0.below b1
      have o1 := o1.mono hB0.size
      clear own0 hB0 b1
      rcases o1.shape with ⟨_, e⟩ | ⟨g, cap, rfl, _⟩
      · rw [e] at hp0; simp at hp0
      have HL := Lib.hid o1
      clear o1 HP
      go_wp2_with fail
      refine (specStatisticOf_any nm _ _ hn (by simp [ByteArray.size])).mono ?_; rintro e w2 ⟨rfl, b2⟩
      rw [HE0.out]
      have hneg : ¬ ((stN nm.toList [] : Nat) : Int) < 0 := by omega
      have B2 := below_then B1 b2
      have own2 := own1.below b2
      have HL2 := Lib.hid (HL.out.below b2)
      clear own1 B1 b2 HL HE0
      go_wp2_with fail
      clear hneg
      go_loopw [6, 8] (fun x i wr => ∃ k : Nat, k ≤ ps.length ∧ i = .int .i64 k ∧ OwI wr w.heap.size x (disF (stN nm.toList) (ps.take k)) ∧ Below w.heap.size w wr ∧ OwR 9 sf wr w.heap.size (.slice (some ⟨g, 0, none⟩) ps.length cap) ps) (fun _ i _ => ps.length - (intOf i).toNat)
      case atStart => exact ⟨0, by omega, rfl, own2, B2, HL2.out⟩
      case round =>
        clear own2 B2 HL2
        obtain ⟨k, hk, rfl, hown, hB, hL⟩ := hrel
        by_cases hlt : k < ps.length
        · have c1 : wr.cell? ⟨g, k, none⟩ = some (.string (S ps[k])) := hL.cellAt k hlt
          have HLk := Lib.hid hL
          obtain ⟨e1, e2⟩ := stN_eq (HD.out ps[k] (List.getElem_mem hlt)) HI.out
          have h16 := HS16.out ps[k] (List.getElem_mem hlt)
          have HT := Lib.hid (take_step (α := Nat) (stN nm.toList) hlt rfl)
          have HG := Lib.hid (fun x => padL_get (stN nm.toList) (ps.take k) x)
          have hbl : (disF (stN nm.toList) (ps.take k)).length ≤ 1000 := disF_len_le _ _ (fun x hx => (stN_eq (HD.out x (List.mem_of_mem_take hx)) HI.out).2)
          generalize hpk : ps[k] = word at c1 e1 e2 h16 HT
          have hsw : (S word).size ≤ 1099511627776 := by rw [S_size]; omega
          have HE := Lib.hid (show statV nm.toList (L (S word)) = ((stN nm.toList word : Nat) : Int) by rw [L_S]; exact e1)
          generalize stN nm.toList word = X at HE e2 HT
          have htl : (ps.take k).length ≤ 4096 := by rw [List.length_take]; omega
          generalize disF (stN nm.toList) (ps.take k) = od at hown HT HG hbl
          generalize (ps.take k).length = tl at HG htl
          clear hpk e1 h16 hL
          go_wp2_with fail
          refine (specStatisticOf_any nm _ _ hn hsw).mono ?_; rintro e w2 ⟨rfl, b2⟩
          rw [HE.out]
          have B2 := below_then hB b2
          have own2 := hown.below b2
          have HL2 := Lib.hid (HLk.out.below b2)
          clear hown hB b2 HLk c1
          go_wp2_with fail
          go_loopw [6] (fun x wr => ∃ j : Nat, (j = 0 ∨ od.length + j ≤ X + 1) ∧ OwI wr w.heap.size x (od ++ List.replicate j 0) ∧ Below w.heap.size w wr ∧ OwR 9 sf wr w.heap.size (.slice (some ⟨g, 0, none⟩) ps.length cap) ps) (fun x _ => match x with | .slice _ l _ => 2000 - l | _ => 0)
          case atStart => exact ⟨0, .inl rfl, by simpa using own2, B2, HL2.out⟩
          case round =>
            clear own2 B2 HL2
            obtain ⟨j, hj, hown, hB, hL⟩ := hrel
            have hsz := hB.size
            have hlen : (od ++ List.replicate j (0 : Int)).length = od.length + j := by simp
            have hap : Apart (.slice (some ⟨g, 0, none⟩) ps.length cap) _ := OwR.apart_of_type hL (OwI_is.1 hown) (by decide)
            obtain ⟨A3, cap3, rfl, hr0⟩ := id hown.rd
            clear hr0
            rw [hlen]
            rw [hlen] at hown hap
            by_cases hx : od.length + j ≤ X
            · have hxi : (od.length : Int) + (j : Int) ≤ (X : Int) := by omega
              have HLk := Lib.hid hL
              have hlen2 : (od ++ List.replicate j (0 : Int)).length < 1099511627776 := by rw [hlen]; omega
              have HR := Lib.hid (show od ++ (List.replicate j (0 : Int) ++ [0]) = od ++ List.replicate (j + 1) 0 by rw [← List.append_assoc]; exact rep_snoc od j)
              have HLN := Lib.hid hlen
              clear hL hlen
              go_wp2_with (at_builtin; refine wpList_appI _ rfl _ _ rfl w.heap.size _ _ rfl hown _ rfl rfl hlen2 hsz ?_)
              intro v' w4 own4 g4 a4
              have B4 := below_of_own hB g4 hsz (fun g hg => (hown.lt g hg).1)
              have HL4 := Lib.hid (HLk.out.other g4 hap)
              obtain ⟨_, g', cap', rfl⟩ := a4
              rw [HR.out] at own4
              clear hown hap g4 HLk hB
              go_wp2_with fail
              go_roundw
              case rel => exact ⟨j + 1, .inr (by omega), own4, B4, HL4.out⟩
              case measure => simp; omega
            · have hxi : ¬ (od.length : Int) + (j : Int) ≤ (X : Int) := by omega
              have hje : j = X + 1 - od.length := by omega
              have hpl2 := padL_len od X
              have HP2 := padL_done od X hje
              rw [HP2] at hown
              have hgx := HG.out X
              have hxl : X < (padL od X).length := by rw [hpl2]; omega
              rw [getD_of hxl] at hgx
              have hlx : od.length + j = (padL od X).length := by rw [hpl2]; omega
              rw [hlx] at hown hap ⊢
              obtain ⟨g3, cap4, e3⟩ := hown.shapeP (by omega)
              injection e3 with e4 _ e5
              subst e4; subst e5
              have c2 := hown.cellAt X hxl
              have c3 := hown.frozenAt X
              have hst := hown.stored X ((padL od X)[X] + 1)
              have HST := Lib.hid (show OwI _ _ _ (incL od X) from by have := hst.1; unfold incL; rw [getD_of hxl]; exact this)
              have HL4 := Lib.hid (hL.other (u := .slice (some ⟨g3, 0, none⟩) (padL od X).length cap3) hst.2 hap)
              have HB4 := Lib.hid (hB.setCell (p := ⟨g3, X, none⟩) (hown.lt g3 rfl).1 (.int .i64 ((padL od X)[X] + 1)))
              have hxi2 : (X : Int) < ((padL od X).length : Int) := by omega
              have hpb : (padL od X).length ≤ 1001 := by rw [hpl2]; omega
              clear hst hlen HP2 hje hpl2 hlx hap hL hB hx hj hown
              generalize (padL od X)[X] = y at c2 HST HL4 HB4 hgx
              generalize (padL od X).length = pl at *
              go_wp2_with fail
              go_roundw
              case rel => exact ⟨k + 1, by omega, by go_num, by rw [HT.out]; exact HST.out, HB4.out, HL4.out⟩
              case measure => simp [intOf]; omega
        · have hke : k = ps.length := by omega
          subst hke
          rw [List.take_length] at hown
          go_wp2_with fail
          go_ret2
          exact RetIB.mk HV.out hown hB
    · have HV := Lib.hid (show disV nm.toList n = ([], false) by unfold disV; rw [if_neg (fun q => hin q.2)])
      have HE0 := Lib.hid (show statV nm.toList (L ⟨#[]⟩) = -1 from statV_other hin)
      have fl : ((ps.length : Int) == 0) = false := beq_eq_false_iff_ne.2 (by omega)
      clear h hpv hps hin
      go_enter Try.func203, Try.ntmps203
      go_wp2_with fail
      refine HP.out.mono ?_; rintro e w1 ⟨r, rfl, o1, b1⟩
      have B1 := below_then hB0 b1
      have own1 := own0.below b1
      obtain ⟨A, c, rfl, _⟩ := id o1.rd
      clear own0 hB0 b1 o1 HP
      go_wp2_with fail
      refine (specStatisticOf_any nm _ _ hn (by simp [ByteArray.size])).mono ?_; rintro e w2 ⟨rfl, b2⟩
      rw [HE0.out]
      have B2 := below_then B1 b2
      have own2 := own1.below b2
      clear own1 B1 b2
      go_wp2_with fail
      go_ret2
      exact RetIB.mk HV.out own2 B2
  · have HV := Lib.hid (show disV nm.toList n = ([], false) by unfold disV; rw [if_neg (fun q => h q.1)])
    have HP := Lib.hid (specPathsOf_any n (w.alloc (.cells #[] 3)) hi64)
    rw [show pathsV n = [] by unfold pathsV; rw [if_neg h]] at HP
    clear h
    go_enter Try.func203, Try.ntmps203
    go_wp2_with fail
    refine HP.out.mono ?_; rintro e w1 ⟨r, rfl, o1, b1⟩
    have B1 := below_then hB0 b1
    have own1 := own0.below b1
    obtain ⟨A, c, rfl, _⟩ := id o1.rd
    clear own0 hB0 b1 o1 HP
    go_wp2_with fail
    go_ret2
    exact RetIB.mk HV.out own1 B1
theorem ba_toList (x : ByteArray) : x.toList = L x := by rw [ByteArray.toList_eq]; rfl
theorem ba_eq (x : ByteArray) (l : List UInt8) : x = ⟨l.toArray⟩ ↔ x.toList = l := by
  rw [ba_toList]
  constructor
  · rintro rfl; exact L_S l
  · intro h; rw [← h]; exact (S_L x).symm
theorem ba_inj {x y : ByteArray} (h : x.toList = y.toList) : x = y := by
  rw [ba_toList, ba_toList] at h
  rw [← S_L x, h, S_L]
theorem names9_mem (x : ByteArray) : x ∈ names9 ↔ isName x.toList := by
  unfold names9 isName
  simp only [List.mem_cons, List.mem_nil_iff, or_false]
  simp only [← ba_eq]
theorem index_any (v : Value) (ss : List ByteArray) (x : ByteArray) (w : World) (hv : RdS w v ss) :
    Calls Try.prog 268 #[v, .string x] w fun e w' => ∃ r : Int, e = .returned (.int .i64 r) ∧ (0 ≤ r ↔ x ∈ ss) ∧ w = w' := by
  obtain ⟨A, c, rfl, hc, hl, hA⟩ := hv
  go_enter Try.func268, Try.ntmps268
  go_wp2_with fail
  go_loop [8] (fun i => ∃ k : Nat, k ≤ ss.length ∧ i = .int .i64 k ∧ Hid (∀ j (hj : j < ss.length), j < k → ¬ x = ss[j])) (fun i => ss.length - (intOf i).toNat)
  case atStart => exact ⟨0, by omega, rfl, Lib.hid (fun j _ h => absurd h (by omega))⟩
  case round =>
    obtain ⟨k, hk, rfl, HA⟩ := hrel
    by_cases hlt : k < ss.length
    · obtain ⟨b, o, rfl, hb, hcl⟩ := hA (by omega)
      have c1 := hcl k hlt
      by_cases he : x = ss[k]
      · have f1 : (x.toList == ss[k].toList) = true := beq_iff_eq.2 (by rw [← he])
        have HM := Lib.hid (show x ∈ ss by rw [he]; exact List.getElem_mem hlt)
        clear hcl he
        go_wp2_with fail
        go_ret
        exact ⟨_, rfl, ⟨fun _ => HM.out, fun _ => by omega⟩, rfl⟩
      · have f1 : (x.toList == ss[k].toList) = false := beq_eq_false_iff_ne.2 (fun h => he (ba_inj h))
        have HA' : Hid (∀ j (hj : j < ss.length), j < k + 1 → ¬ x = ss[j]) := Lib.hid (fun j hj hjk => by
          rcases Nat.lt_or_ge j k with h | h
          · exact HA.out j hj h
          · obtain rfl : j = k := by omega
            exact he)
        clear hcl he
        go_wp2_with fail
        go_round
        case rel => exact ⟨k + 1, by omega, by go_num, HA'⟩
        case measure => simp [intOf]; omega
    · have HM := Lib.hid (show ¬ x ∈ ss by
        intro h
        obtain ⟨j, hj, e⟩ := List.mem_iff_getElem.1 h
        exact HA.out j hj (by omega) e.symm)
      go_wp2_with fail
      go_ret
      exact ⟨-1, rfl, ⟨fun h => absurd h (by omega), fun h => absurd h HM.out⟩, rfl⟩
theorem contains9_any (v : Value) (x : ByteArray) (w : World) (hv : RdS w v names9) :
    Calls Try.prog 245 #[v, .string x] w fun e w' => e = .returned (.bool (decide (isName x.toList))) ∧ w = w' := by
  have HM := Lib.hid (names9_mem x)
  go_enter Try.func245, Try.ntmps245
  go_wp2_with fail
  refine (index_any v names9 x _ hv).mono ?_; rintro e w' ⟨r, rfl, hr, rfl⟩
  have HR := Lib.hid (show decide (0 ≤ r) = decide (isName x.toList) by rw [decide_eq_decide, hr]; exact HM.out)
  clear hr
  go_wp2_with fail
  go_ret
  exact ⟨ret_bool HR.out, rfl⟩
set_option maxHeartbeats 1600000 in
theorem implDistributionOf_any (nm : ByteArray) (n : Int) (w : World) (hn : nm.size ≤ 1099511627776) (hi64 : I64 n) :
    Calls Try.prog 205 #[.string nm, .int .i64 n] w (RetIB w (disV nm.toList n)) := by
  have own0 := OwI.empty_ w w.heap.size (Nat.le_refl _)
  have hB0 : Below w.heap.size w (w.alloc (.cells #[] 3)) := (Below.refl _ _).alloc (Nat.le_refl _) _
  by_cases h : 0 ≤ n ∧ n ≤ 6
  · obtain ⟨hpv, hn6⟩ := pathsV_ok h
    obtain ⟨ps, hps⟩ : ∃ ps, ps = pathsL n.toNat := ⟨_, rfl⟩
    have hpl := pathsL_len hn6
    have hp0 := pathsL_pos n.toNat
    rw [← hps] at hpl hp0
    have HD := Lib.hid (fun x (hx : x ∈ ps) => (pathsL_dyck hn6 (by rw [hps] at hx; exact hx)).1)
    have HS16 := Lib.hid (fun x (hx : x ∈ ps) => (pathsL_dyck hn6 (by rw [hps] at hx; exact hx)).1.1)
    by_cases hin : isName nm.toList
    · have HI := Lib.hid hin
      have HV := Lib.hid (show disV nm.toList n = (disF (stN nm.toList) ps, true) by unfold disV; rw [if_pos ⟨h, hin⟩, hps])
      clear hin
      go_enter Try.func205, Try.ntmps205
      go_wp2_with (first | (go_at_call 168; refine (within_yes _ _ _ _ (by omega) (by omega)).mono ?_; rintro e w' ⟨rfl, rfl⟩) | (go_at_call 246; refine (implStatisticNames_any _).mono ?_; rintro e w1 ⟨r0, rfl, o0, b1⟩))
      refine (contains9_any r0 nm _ o0.rd).mono ?_; rintro e w' ⟨rfl, rfl⟩
      rw [decide_eq_true HI.out]
      have B1 := below_then hB0 b1
      have own1 := own0.below b1
      clear own0 hB0 b1 o0
      have HP1 := Lib.hid (implPathsOf_any n w1 hi64)
      rw [hpv, ← hps] at HP1
      clear h hpv hps
      go_wp2_with fail
      refine HP1.out.mono ?_; rintro e w2 ⟨r, rfl, o1, b2⟩
      have B2 := below_then B1 b2
      have own2 := own1.below b2
      have o1 := o1.mono B1.size
      clear own1 B1 b2 HP1
      rcases o1.shape with ⟨_, e⟩ | ⟨g, cap, rfl, _⟩
      · rw [e] at hp0; simp at hp0
      have HL2 := Lib.hid o1
      clear o1
      go_wp2_with fail
      go_loopw [6, 24] (fun x i wr => ∃ k : Nat, k ≤ ps.length ∧ i = .int .i64 k ∧ OwI wr w.heap.size x (disF (stN nm.toList) (ps.take k)) ∧ Below w.heap.size w wr ∧ OwR 9 sf wr w.heap.size (.slice (some ⟨g, 0, none⟩) ps.length cap) ps) (fun _ i _ => ps.length - (intOf i).toNat)
      case atStart => exact ⟨0, by omega, rfl, own2, B2, HL2.out⟩
      case round =>
        clear own2 B2 HL2
        obtain ⟨k, hk, rfl, hown, hB, hL⟩ := hrel
        by_cases hlt : k < ps.length
        · have c1 : wr.cell? ⟨g, k, none⟩ = some (.string (S ps[k])) := hL.cellAt k hlt
          have HLk := Lib.hid hL
          obtain ⟨e1, e2⟩ := stN_eq (HD.out ps[k] (List.getElem_mem hlt)) HI.out
          have h16 := HS16.out ps[k] (List.getElem_mem hlt)
          have HT := Lib.hid (take_step (α := Nat) (stN nm.toList) hlt rfl)
          have HG := Lib.hid (fun x => padL_get (stN nm.toList) (ps.take k) x)
          have hbl : (disF (stN nm.toList) (ps.take k)).length ≤ 1000 := disF_len_le _ _ (fun x hx => (stN_eq (HD.out x (List.mem_of_mem_take hx)) HI.out).2)
          generalize hpk : ps[k] = word at c1 e1 e2 h16 HT
          have hsw : (S word).size ≤ 1099511627776 := by rw [S_size]; omega
          have HE := Lib.hid (show statV nm.toList (L (S word)) = ((stN nm.toList word : Nat) : Int) by rw [L_S]; exact e1)
          generalize stN nm.toList word = X at HE e2 HT
          have htl : (ps.take k).length ≤ 4096 := by rw [List.length_take]; omega
          generalize disF (stN nm.toList) (ps.take k) = od at hown HT HG hbl
          generalize (ps.take k).length = tl at HG htl
          clear hpk e1 h16 hL
          go_wp2_with fail
          refine (implStatisticOf_any nm _ _ hn hsw).mono ?_; rintro e w2 ⟨rfl, b2⟩
          rw [HE.out]
          have B2 := below_then hB b2
          have own2 := hown.below b2
          have HL2 := Lib.hid (HLk.out.below b2)
          clear hown hB b2 HLk c1
          go_wp2_with fail
          go_loopw [6] (fun x wr => ∃ j : Nat, (j = 0 ∨ od.length + j ≤ X + 1) ∧ OwI wr w.heap.size x (od ++ List.replicate j 0) ∧ Below w.heap.size w wr ∧ OwR 9 sf wr w.heap.size (.slice (some ⟨g, 0, none⟩) ps.length cap) ps) (fun x _ => match x with | .slice _ l _ => 2000 - l | _ => 0)
          case atStart => exact ⟨0, .inl rfl, by simpa using own2, B2, HL2.out⟩
          case round =>
            clear own2 B2 HL2
            obtain ⟨j, hj, hown, hB, hL⟩ := hrel
            have hsz := hB.size
            have hlen : (od ++ List.replicate j (0 : Int)).length = od.length + j := by simp
            have hap : Apart (.slice (some ⟨g, 0, none⟩) ps.length cap) _ := OwR.apart_of_type hL (OwI_is.1 hown) (by decide)
            obtain ⟨A3, cap3, rfl, hr0⟩ := id hown.rd
            clear hr0
            rw [hlen]
            rw [hlen] at hown hap
            by_cases hx : od.length + j ≤ X
            · have hxi : (od.length : Int) + (j : Int) ≤ (X : Int) := by omega
              have HLk := Lib.hid hL
              have hlen2 : (od ++ List.replicate j (0 : Int)).length < 1099511627776 := by rw [hlen]; omega
              have HR := Lib.hid (show od ++ (List.replicate j (0 : Int) ++ [0]) = od ++ List.replicate (j + 1) 0 by rw [← List.append_assoc]; exact rep_snoc od j)
              have HLN := Lib.hid hlen
              clear hL hlen
              go_wp2_with (at_builtin; refine wpList_appI _ rfl _ _ rfl w.heap.size _ _ rfl hown _ rfl rfl hlen2 hsz ?_)
              intro v' w4 own4 g4 a4
              have B4 := below_of_own hB g4 hsz (fun g hg => (hown.lt g hg).1)
              have HL4 := Lib.hid (HLk.out.other g4 hap)
              obtain ⟨_, g', cap', rfl⟩ := a4
              rw [HR.out] at own4
              clear hown hap g4 HLk hB
              go_wp2_with fail
              go_roundw
              case rel => exact ⟨j + 1, .inr (by omega), own4, B4, HL4.out⟩
              case measure => simp; omega
            · have hxi : ¬ (od.length : Int) + (j : Int) ≤ (X : Int) := by omega
              have hje : j = X + 1 - od.length := by omega
              have hpl2 := padL_len od X
              have HP2 := padL_done od X hje
              rw [HP2] at hown
              have hgx := HG.out X
              have hxl : X < (padL od X).length := by rw [hpl2]; omega
              rw [getD_of hxl] at hgx
              have hlx : od.length + j = (padL od X).length := by rw [hpl2]; omega
              rw [hlx] at hown hap ⊢
              obtain ⟨g3, cap4, e3⟩ := hown.shapeP (by omega)
              injection e3 with e4 _ e5
              subst e4; subst e5
              have c2 := hown.cellAt X hxl
              have c3 := hown.frozenAt X
              have hst := hown.stored X ((padL od X)[X] + 1)
              have HST := Lib.hid (show OwI _ _ _ (incL od X) from by have := hst.1; unfold incL; rw [getD_of hxl]; exact this)
              have HL4 := Lib.hid (hL.other (u := .slice (some ⟨g3, 0, none⟩) (padL od X).length cap3) hst.2 hap)
              have HB4 := Lib.hid (hB.setCell (p := ⟨g3, X, none⟩) (hown.lt g3 rfl).1 (.int .i64 ((padL od X)[X] + 1)))
              have hxi2 : (X : Int) < ((padL od X).length : Int) := by omega
              have hpb : (padL od X).length ≤ 1001 := by rw [hpl2]; omega
              clear hst hlen HP2 hje hpl2 hlx hap hL hB hx hj hown
              generalize (padL od X)[X] = y at c2 HST HL4 HB4 hgx
              generalize (padL od X).length = pl at *
              go_wp2_with fail
              go_roundw
              case rel => exact ⟨k + 1, by omega, by go_num, by rw [HT.out]; exact HST.out, HB4.out, HL4.out⟩
              case measure => simp [intOf]; omega
        · have hke : k = ps.length := by omega
          subst hke
          rw [List.take_length] at hown
          go_wp2_with fail
          go_ret2
          exact RetIB.mk HV.out hown hB
    · have HV := Lib.hid (show disV nm.toList n = ([], false) by unfold disV; rw [if_neg (fun q => hin q.2)])
      have HI := Lib.hid hin
      clear hpv hps hin
      go_enter Try.func205, Try.ntmps205
      go_wp2_with (first | (go_at_call 168; refine (within_yes _ _ _ _ (by omega) (by omega)).mono ?_; rintro e w' ⟨rfl, rfl⟩) | (go_at_call 246; refine (implStatisticNames_any _).mono ?_; rintro e w1 ⟨r0, rfl, o0, b1⟩))
      refine (contains9_any r0 nm _ o0.rd).mono ?_; rintro e w' ⟨rfl, rfl⟩
      rw [decide_eq_false HI.out]
      have B1 := below_then hB0 b1
      have own1 := own0.below b1
      clear own0 hB0 b1 o0
      go_wp2_with fail
      go_ret2
      exact RetIB.mk HV.out own1 B1
  · have HV := Lib.hid (show disV nm.toList n = ([], false) by unfold disV; rw [if_neg (fun q => h q.1)])
    go_enter Try.func205, Try.ntmps205
    go_wp2_with (go_at_call 168; refine (within_no _ _ _ _ h).mono ?_; rintro e w' ⟨rfl, rfl⟩)
    go_ret2
    exact RetIB.mk HV.out own0 hB0
end Go.Proofs.Ytngfkajfbgfncaa
