/- Contracts of AreEquidistributed, JointTable and IsJointlySymmetric, the program's and the reference's. Condition: the names' sizes. -/
import Derived.Test.YtngfkajfbgfncaaStatDist
import Derived.Test.YtngfkajfbgfncaaSSMark
import Derived.Test.YtngfkajfbgfncaaSSRet
namespace Go.Proofs.Ytngfkajfbgfncaa
open Go.RowKit
/-- one more at a place of a table -/
def inc2 (t : List (List Int)) (i j : Nat) : List (List Int) := t.set i ((rowOf t i).set j ((rowOf t i).getD j 0 + 1))
def jtF (f g : List UInt8 → Nat) (m : Nat) (l : List (List UInt8)) : List (List Int) := l.foldl (fun t w => inc2 t (f w) (g w)) (List.replicate m (List.replicate m 0))
theorem jtF_snoc (f g : List UInt8 → Nat) (m : Nat) (l : List (List UInt8)) (w : List UInt8) : jtF f g m (l ++ [w]) = inc2 (jtF f g m l) (f w) (g w) := by simp [jtF, List.foldl_append]
theorem jtF_nil (f g : List UInt8 → Nat) (m : Nat) : jtF f g m [] = List.replicate m (List.replicate m 0) := rfl
structure JtOk (t : List (List Int)) (m : Nat) (c : Int) : Prop where
  len : t.length = m
  row : ∀ i, i < m → (rowOf t i).length = m
  val : ∀ i j, i < m → j < m → 0 ≤ (rowOf t i).getD j 0 ∧ (rowOf t i).getD j 0 ≤ c
theorem JtOk.start (m : Nat) : JtOk (List.replicate m (List.replicate m 0)) m 0 := by
  have h : ∀ i, i < m → rowOf (List.replicate m (List.replicate m (0 : Int))) i = List.replicate m 0 := fun i hi => by
    rw [rowOf_get (by simpa using hi)]; simp
  refine ⟨by simp, fun i hi => by rw [h i hi]; simp, fun i j hi hj => ?_⟩
  rw [h i hi, getD_of (by simpa using hj)]
  simp
theorem JtOk.inc {t : List (List Int)} {m : Nat} {c : Int} (h : JtOk t m c) {i j : Nat} (hi : i < m) (hj : j < m) : JtOk (inc2 t i j) m (c + 1) := by
  have hl := h.len
  refine ⟨by unfold inc2; rw [List.length_set]; exact hl, fun k hk => ?_, fun k r hk hr => ?_⟩
  · unfold inc2
    by_cases e : k = i
    · subst e; rw [rowOf_set_eq (by omega), List.length_set]; exact h.row k hk
    · rw [rowOf_set_ne e]; exact h.row k hk
  · unfold inc2
    by_cases e : k = i
    · subst e
      rw [rowOf_set_eq (by omega)]
      have h1 := h.row k hk
      have h2 := h.val k j hk hj
      have h3 := h.val k r hk hr
      rw [getD_of (by rw [List.length_set]; omega), List.getElem_set]
      split
      · omega
      · rw [getD_of (by omega)] at h3; omega
    · rw [rowOf_set_ne e]
      have := h.val k r hk hr
      omega
theorem jtF_ok {f g : List UInt8 → Nat} {m : Nat} : ∀ (l : List (List UInt8)), (∀ w ∈ l, f w < m ∧ g w < m) → JtOk (jtF f g m l) m (l.length : Int) := by
  intro l
  refine snoc_ind (P := fun l => (∀ w ∈ l, f w < m ∧ g w < m) → JtOk (jtF f g m l) m (l.length : Int)) ?_ ?_ l
  · intro _; exact JtOk.start m
  · intro l w ih h
    have h1 := ih fun x hx => h x (List.mem_append_left _ hx)
    have h2 := h w (by simp)
    rw [jtF_snoc, List.length_append, List.length_singleton]
    have := h1.inc h2.1 h2.2
    simpa using this
def jtM (a b : List UInt8) (ps : List (List UInt8)) : Nat := max (disF (stN a) ps).length (disF (stN b) ps).length
def jtV (a b : List UInt8) (n : Int) : List (List Int) × Bool :=
  if (0 ≤ n ∧ n ≤ 6) ∧ isName a ∧ isName b then (jtF (stN a) (stN b) (jtM a b (pathsL n.toNat)) (pathsL n.toNat), true) else ([], false)
theorem jtM_le {a b : List UInt8} (ha : isName a) (hb : isName b) {n : Nat} (hn : n ≤ 6) : jtM a b (pathsL n) ≤ 1000 := by
  have h1 := disF_len_le (stN a) (B := 1000) (pathsL n) (fun x hx => (stN_eq (pathsL_dyck hn hx).1 ha).2)
  have h2 := disF_len_le (stN b) (B := 1000) (pathsL n) (fun x hx => (stN_eq (pathsL_dyck hn hx).1 hb).2)
  unfold jtM; omega
theorem jt_lt (a b : List UInt8) {ps : List (List UInt8)} {w : List UInt8} (h : w ∈ ps) : stN a w < jtM a b ps ∧ stN b w < jtM a b ps := by
  have h1 := disF_mem (stN a) h
  have h2 := disF_mem (stN b) h
  unfold jtM; omega
theorem jtV_off (a b : List UInt8) (n : Int) : off (jtV a b n).1 (jtV a b n).1.length ≤ 10000000 := by
  unfold jtV
  split
  · rename_i h
    obtain ⟨⟨h0, h6⟩, ha, hb⟩ := h
    have hn : n.toNat ≤ 6 := by omega
    have hm := jtM_le ha hb hn
    have ho := jtF_ok (f := stN a) (g := stN b) (m := jtM a b (pathsL n.toNat)) (pathsL n.toNat) (fun w hw => jt_lt a b hw)
    show off (jtF _ _ _ _) (jtF (stN a) (stN b) (jtM a b (pathsL n.toNat)) (pathsL n.toNat)).length ≤ _
    rw [ho.len]
    have : off (jtF (stN a) (stN b) (jtM a b (pathsL n.toNat)) (pathsL n.toNat)) (jtM a b (pathsL n.toNat)) ≤ jtM a b (pathsL n.toNat) * 1000 := by
      unfold off
      exact sumTo_le fun i hi => by rw [ho.row i hi]; exact hm
    omega
  · simp [off, sumTo]
/-- whether a table is its own mirror -/
def symB (t : List (List Int)) : Bool := (List.range t.length).all fun i => (List.range t.length).all fun k => decide ((rowOf t i).getD k 0 = (rowOf t k).getD i 0)
theorem symB_of {t : List (List Int)} (h : ∀ i k, i < t.length → k < t.length → (rowOf t i).getD k 0 = (rowOf t k).getD i 0) : symB t = true := by
  unfold symB
  rw [List.all_eq_true]
  intro i hi
  rw [List.all_eq_true]
  intro k hk
  exact decide_eq_true (h i k (List.mem_range.1 hi) (List.mem_range.1 hk))
theorem symB_not {t : List (List Int)} {i k : Nat} (hi : i < t.length) (hk : k < t.length) (h : ¬ (rowOf t i).getD k 0 = (rowOf t k).getD i 0) : symB t = false := by
  rcases hb : symB t with _ | _
  · rfl
  · exfalso
    unfold symB at hb
    rw [List.all_eq_true] at hb
    have h1 := hb i (List.mem_range.2 hi)
    rw [List.all_eq_true] at h1
    exact h (of_decide_eq_true (h1 k (List.mem_range.2 hk)))
theorem disV_yes {nm : List UInt8} {n : Int} (h : (disV nm n).2 = true) : (0 ≤ n ∧ n ≤ 6) ∧ isName nm ∧ (disV nm n).1 = disF (stN nm) (pathsL n.toNat) := by
  unfold disV at h ⊢
  split at h
  · rename_i q
    rw [if_pos q]
    exact ⟨q.1, q.2, rfl⟩
  · cases h
theorem jtV_no {a b : List UInt8} {n : Int} (h : (disV a n).2 = false ∨ (disV b n).2 = false) : jtV a b n = ([], false) := by
  unfold jtV
  rw [if_neg]
  rintro ⟨h1, h2, h3⟩
  rcases h with h | h
  · unfold disV at h; rw [if_pos ⟨h1, h2⟩] at h; cases h
  · unfold disV at h; rw [if_pos ⟨h1, h3⟩] at h; cases h
theorem jtV_yes {a b : List UInt8} {n : Int} (ha : (disV a n).2 = true) (hb : (disV b n).2 = true) : jtV a b n = (jtF (stN a) (stN b) (jtM a b (pathsL n.toNat)) (pathsL n.toNat), true) := by
  obtain ⟨h1, h2, _⟩ := disV_yes ha
  obtain ⟨_, h3, _⟩ := disV_yes hb
  unfold jtV; rw [if_pos ⟨h1, h2, h3⟩]
/-- whether two statistics are counted alike -/
def aeV (a b : List UInt8) (n : Int) : Bool := (disV a n).2 && ((disV b n).2 && decide ((disV a n).1 = (disV b n).1))
theorem disV_len {nm : List UInt8} {n : Int} : (disV nm n).1.length ≤ 1000 := by
  unfold disV
  split
  · rename_i q
    exact disF_len_le _ _ (fun x hx => (stN_eq (pathsL_dyck (show n.toNat ≤ 6 by omega) hx).1 q.2).2)
  · simp
set_option maxHeartbeats 1000000 in
theorem l13Same_any (a b : Value) (xs ys : List Int) (w : World) (ha : RdI w a xs) (hb : RdI w b ys) :
    Calls Try.prog 204 #[a, b] w fun e w' => e = .returned (.bool (decide (xs = ys))) ∧ ∃ q, w' = w.drewN q := by
  obtain ⟨A, c, rfl, hc, hl, hA⟩ := ha
  obtain ⟨B, d, rfl, hd, hm, hB⟩ := hb
  by_cases hn : xs.length = ys.length
  · have HN := Lib.hid hn
    clear hn
    have hbn : ((xs.length : Int) != (ys.length : Int)) = false := by rw [HN.out]; simp
    go_enter Try.func204, Try.ntmps204
    go_wp2_with fail
    go_loopw [5] (fun i wr => ∃ k : Nat, k ≤ xs.length ∧ i = .int .i64 k ∧ Hid (xs.take k = ys.take k) ∧ ∃ q, wr = w.drewN q) (fun i _ => xs.length - (intOf i).toNat)
    case atStart => exact ⟨0, by omega, rfl, rfl, 0, rfl⟩
    case round =>
      obtain ⟨k, hk, rfl, HT, q, rfl⟩ := hrel
      by_cases hlt : k < xs.length
      · obtain ⟨b1, o1, rfl, _, h1⟩ := hA (by omega)
        obtain ⟨b2, o2, rfl, _, h2⟩ := hB (by have := HN.out; omega)
        have hlt2 : k < ys.length := by have := HN.out; omega
        have hlt2i : (k : Int) < (ys.length : Int) := by omega
        have c1 := h1 k hlt
        have c2 := h2 k hlt2
        clear h1 h2 hA hB
        go_wp2_with fail
        go_quiet (fail)
        go_wp2_with fail
        · have hne : (xs[k] != ys[k]) = true := by assumption
          go_ret
          refine ⟨ret_bool ?_, q + _, (drewN_two _ _ _)⟩
          have : xs ≠ ys := fun e => by subst e; simp at hne
          simp [this]
        · have hne : (xs[k] != ys[k]) = false := by assumption
          go_roundw
          case rel => exact ⟨k + 1, by omega, by go_num, by rw [take_succ_get _ _ hlt, take_succ_get _ _ hlt2, HT.out, show xs[k] = ys[k] by simpa using hne]; exact Lib.hid rfl, _, rfl⟩
          case measure => simp [intOf]; omega
      · go_wp2_with fail
        go_ret
        refine ⟨ret_bool ?_, q, rfl⟩
        have h1 := HT.out
        rw [List.take_of_length_le (by omega), List.take_of_length_le (by have := HN.out; omega)] at h1
        simp [h1]
  · have hbn : ((xs.length : Int) != (ys.length : Int)) = true := by simp; omega
    have H := Lib.hid hn
    clear hn
    go_enter Try.func204, Try.ntmps204
    go_wp2_with fail
    go_ret
    refine ⟨ret_bool ?_, 0, rfl⟩
    have : xs ≠ ys := fun e => H.out (by rw [e])
    simp [this]
set_option maxHeartbeats 1000000 in
theorem specAreEquidistributed_any (a b : ByteArray) (n : Int) (w : World) (ha : a.size ≤ 1099511627776) (hb : b.size ≤ 1099511627776) (hn : I64 n) :
    Calls Try.prog 116 #[.string a, .string b, .int .i64 n] w fun e w' => e = .returned (.bool (aeV a.toList b.toList n)) ∧ Below w.heap.size w w' := by
  have HA := Lib.hid (fun wq => specDistributionOf_any a n wq ha hn)
  have HB := Lib.hid (fun wq => specDistributionOf_any b n wq hb hn)
  unfold aeV
  generalize disV a.toList n = X at HA ⊢
  generalize disV b.toList n = Y at HB ⊢
  obtain ⟨xl, xt⟩ := X
  obtain ⟨yl, yt⟩ := Y
  rcases xt with _ | _
  · go_enter Try.func116, Try.ntmps116
    go_wp2_with fail
    refine (HA.out _).mono ?_; rintro e w1 ⟨r1, rfl, o1, b1⟩
    go_wp2_with fail
    refine (HB.out _).mono ?_; rintro e w2 ⟨r2, rfl, o2, b2⟩
    go_wp2_with fail
    go_ret
    exact ⟨ret_bool rfl, below_then b1 b2⟩
  · rcases yt with _ | _
    · go_enter Try.func116, Try.ntmps116
      go_wp2_with fail
      refine (HA.out _).mono ?_; rintro e w1 ⟨r1, rfl, o1, b1⟩
      go_wp2_with fail
      refine (HB.out _).mono ?_; rintro e w2 ⟨r2, rfl, o2, b2⟩
      go_wp2_with fail
      go_ret
      exact ⟨ret_bool rfl, below_then b1 b2⟩
    · go_enter Try.func116, Try.ntmps116
      go_wp2_with fail
      refine (HA.out _).mono ?_; rintro e w1 ⟨r1, rfl, o1, b1⟩
      go_wp2_with fail
      refine (HB.out _).mono ?_; rintro e w2 ⟨r2, rfl, o2, b2⟩
      have o1' := o1.rd.below b2
      go_wp2_with fail
      refine (to_below (l13Same_any _ _ _ _ _ o1' o2.rd)).mono ?_; rintro e w3 ⟨rfl, b3⟩
      go_wp2_with fail
      go_ret
      exact ⟨ret_bool rfl, below_then b1 (below_then b2 b3)⟩
set_option maxHeartbeats 1000000 in
theorem equalInts_any (a b : Value) (xs ys : List Int) (w : World) (ha : RdI w a xs) (hb : RdI w b ys) :
    Calls Try.prog 206 #[a, b] w fun e w' => e = .returned (.bool (decide (xs = ys))) ∧ ∃ q, w' = w.drewN q := by
  obtain ⟨A, c, rfl, hc, hl, hA⟩ := ha
  obtain ⟨B, d, rfl, hd, hm, hB⟩ := hb
  by_cases hn : xs.length = ys.length
  · have HN := Lib.hid hn
    clear hn
    have hbn : ((xs.length : Int) != (ys.length : Int)) = false := by rw [HN.out]; simp
    go_enter Try.func206, Try.ntmps206
    go_wp2_with fail
    go_loopw [13] (fun i wr => ∃ k : Nat, k ≤ xs.length ∧ i = .int .i64 k ∧ Hid (xs.take k = ys.take k) ∧ ∃ q, wr = w.drewN q) (fun i _ => xs.length - (intOf i).toNat)
    case atStart => exact ⟨0, by omega, rfl, rfl, 0, rfl⟩
    case round =>
      obtain ⟨k, hk, rfl, HT, q, rfl⟩ := hrel
      by_cases hlt : k < xs.length
      · obtain ⟨b1, o1, rfl, _, h1⟩ := hA (by omega)
        obtain ⟨b2, o2, rfl, _, h2⟩ := hB (by have := HN.out; omega)
        have hlt2 : k < ys.length := by have := HN.out; omega
        have hlt2i : (k : Int) < (ys.length : Int) := by omega
        have c1 := h1 k hlt
        have c2 := h2 k hlt2
        clear h1 h2 hA hB
        go_wp2_with fail
        go_quiet (fail)
        go_wp2_with fail
        · have hne : (xs[k] != ys[k]) = true := by assumption
          go_ret
          refine ⟨ret_bool ?_, q + _, (drewN_two _ _ _)⟩
          have : xs ≠ ys := fun e => by subst e; simp at hne
          simp [this]
        · have hne : (xs[k] != ys[k]) = false := by assumption
          go_roundw
          case rel => exact ⟨k + 1, by omega, by go_num, by rw [take_succ_get _ _ hlt, take_succ_get _ _ hlt2, HT.out, show xs[k] = ys[k] by simpa using hne]; exact Lib.hid rfl, _, rfl⟩
          case measure => simp [intOf]; omega
      · go_wp2_with fail
        go_ret
        refine ⟨ret_bool ?_, q, rfl⟩
        have h1 := HT.out
        rw [List.take_of_length_le (by omega), List.take_of_length_le (by have := HN.out; omega)] at h1
        simp [h1]
  · have hbn : ((xs.length : Int) != (ys.length : Int)) = true := by simp; omega
    have H := Lib.hid hn
    clear hn
    go_enter Try.func206, Try.ntmps206
    go_wp2_with fail
    go_ret
    refine ⟨ret_bool ?_, 0, rfl⟩
    have : xs ≠ ys := fun e => H.out (by rw [e])
    simp [this]
set_option maxHeartbeats 1000000 in
theorem implAreEquidistributed_any (a b : ByteArray) (n : Int) (w : World) (ha : a.size ≤ 1099511627776) (hb : b.size ≤ 1099511627776) (hn : I64 n) :
    Calls Try.prog 117 #[.string a, .string b, .int .i64 n] w fun e w' => e = .returned (.bool (aeV a.toList b.toList n)) ∧ Below w.heap.size w w' := by
  have HA := Lib.hid (fun wq => implDistributionOf_any a n wq ha hn)
  have HB := Lib.hid (fun wq => implDistributionOf_any b n wq hb hn)
  unfold aeV
  generalize disV a.toList n = X at HA ⊢
  generalize disV b.toList n = Y at HB ⊢
  obtain ⟨xl, xt⟩ := X
  obtain ⟨yl, yt⟩ := Y
  rcases xt with _ | _
  · go_enter Try.func117, Try.ntmps117
    go_wp2_with fail
    refine (HA.out _).mono ?_; rintro e w1 ⟨r1, rfl, o1, b1⟩
    go_wp2_with fail
    refine (HB.out _).mono ?_; rintro e w2 ⟨r2, rfl, o2, b2⟩
    go_wp2_with fail
    go_ret
    exact ⟨ret_bool rfl, below_then b1 b2⟩
  · rcases yt with _ | _
    · go_enter Try.func117, Try.ntmps117
      go_wp2_with fail
      refine (HA.out _).mono ?_; rintro e w1 ⟨r1, rfl, o1, b1⟩
      go_wp2_with fail
      refine (HB.out _).mono ?_; rintro e w2 ⟨r2, rfl, o2, b2⟩
      go_wp2_with fail
      go_ret
      exact ⟨ret_bool rfl, below_then b1 b2⟩
    · go_enter Try.func117, Try.ntmps117
      go_wp2_with fail
      refine (HA.out _).mono ?_; rintro e w1 ⟨r1, rfl, o1, b1⟩
      go_wp2_with fail
      refine (HB.out _).mono ?_; rintro e w2 ⟨r2, rfl, o2, b2⟩
      have o1' := o1.rd.below b2
      go_wp2_with fail
      refine (to_below (equalInts_any _ _ _ _ _ o1' o2.rd)).mono ?_; rintro e w3 ⟨rfl, b3⟩
      go_wp2_with fail
      go_ret
      exact ⟨ret_bool rfl, below_then b1 (below_then b2 b3)⟩
set_option maxRecDepth 8000 in
set_option maxHeartbeats 3200000 in
theorem specJointTable_any (a b : ByteArray) (n : Int) (w : World) (ha : a.size ≤ 1099511627776) (hb : b.size ≤ 1099511627776) (hn : I64 n) :
    Calls Try.prog 120 #[.string a, .string b, .int .i64 n] w (RetSSB w (jtV a.toList b.toList n)) := by
  have HA := Lib.hid (fun wq => specDistributionOf_any a n wq ha hn)
  have HB := Lib.hid (fun wq => specDistributionOf_any b n wq hb hn)
  have hno := jtV_no (a := a.toList) (b := b.toList) (n := n)
  by_cases hab : (disV a.toList n).2 = true ∧ (disV b.toList n).2 = true
  · obtain ⟨h6, hia, hda⟩ := disV_yes hab.1
    obtain ⟨_, hib, hdb⟩ := disV_yes hab.2
    have HV := Lib.hid (jtV_yes hab.1 hab.2)
    have hla := disV_len (nm := a.toList) (n := n)
    have hlb := disV_len (nm := b.toList) (n := n)
    have hmm : ((jtM a.toList b.toList (pathsL n.toNat) : Nat) : Int) = max ((disV a.toList n).1.length : Int) ((disV b.toList n).1.length : Int) := by rw [hda, hdb]; unfold jtM; omega
    have hm1 := jtM_le hia hib (show n.toNat ≤ 6 by omega)
    have HP := Lib.hid (fun wq => specPathsOf_any n wq hn)
    rw [(pathsV_ok h6).1] at HP
    have hn6 : n.toNat ≤ 6 := by omega
    have hpl := pathsL_len hn6
    have hp0 := pathsL_pos n.toNat
    have HD := Lib.hid (fun x (hx : x ∈ pathsL n.toNat) => (pathsL_dyck hn6 hx).1)
    have HJ := Lib.hid (fun w (hw : w ∈ pathsL n.toNat) => jt_lt a.toList b.toList hw)
    have HIA := Lib.hid hia
    have HIB := Lib.hid hib
    generalize pathsL n.toNat = ps at HV HP hpl hp0 HD HJ hmm hm1
    generalize jtM a.toList b.toList ps = m at HV HJ hmm hm1
    obtain ⟨ha2, hb2⟩ := hab
    generalize disV a.toList n = X at HA ha2 hla hmm
    generalize disV b.toList n = Y at HB hb2 hlb hmm
    obtain ⟨xl, xt⟩ := X
    obtain ⟨yl, yt⟩ := Y
    simp only at ha2 hb2 hla hlb hmm
    subst ha2
    subst hb2
    clear hno h6 hda hdb hia hib hn6
    have hmx : (xl.length < yl.length ∧ (yl.length : Int) = (m : Int)) ∨ (yl.length ≤ xl.length ∧ (xl.length : Int) = (m : Int)) := by omega
    clear hmm
    rcases hmx with ⟨hcmp, hmq⟩ | ⟨hcmp, hmq⟩
    · go_enter Try.func120, Try.ntmps120
      go_wp2_with fail
      refine (HA.out _).mono ?_; rintro e w1 ⟨r1, rfl, o1, b1⟩
      obtain ⟨A1, c1, rfl, _⟩ := id o1.rd
      go_wp2_with fail
      refine (HB.out _).mono ?_; rintro e w2 ⟨r2, rfl, o2, b2⟩
      obtain ⟨A2, c2, rfl, _⟩ := id o2.rd
      have B2 := below_then b1 b2
      have hs2 := B2.size
      have sp0 := OwSS.empty2 w2 w.heap.size hs2
      have hB0 : Below w.heap.size w (w2.alloc (.cells #[] 33)) := B2.alloc hs2 _
      clear o1 o2 b1 b2 B2 hs2 HA HB
      go_wp2_with fail
      generalize w2.alloc (.cells #[] 33) = w3 at sp0 hB0 ⊢
      try rw [hmq]
      go_loopw [12, 14] (fun v i wr => ∃ k : Nat, k ≤ m ∧ i = .int .i64 (k : Int) ∧ OwSS wr w.heap.size wr.heap.size v (List.replicate k (List.replicate m (0 : Int))) ∧ Below w.heap.size w wr) (fun _ i _ => m - (intOf i).toNat)
      case atStart => exact ⟨0, by omega, rfl, sp0, hB0⟩
      case round =>
        clear sp0 hB0
        obtain ⟨k, hk, rfl, hown, hB⟩ := hrel
        have hsz := hB.size
        by_cases hlt : k < m
        · have hki : (k : Int) < (m : Int) := by omega
          have hlen : (List.replicate k (List.replicate m (0 : Int))).length < 1099511627776 := by simp; omega
          have HR := Lib.hid (show List.replicate k (List.replicate m (0 : Int)) ++ [List.replicate m 0] = List.replicate (k + 1) (List.replicate m 0) from (List.replicate_succ' (n := k) (a := List.replicate m (0 : Int))).symm)
          go_wp2_with (at_make; refine wpList_makeI _ rfl _ _ rfl _ _ _ _ m rfl rfl rfl rfl (by omega) ?_)
          intro w4 o4 b4
          have hut : ∀ g, (Value.slice (some ⟨wr.heap.size, 0, none⟩) m m).ownBlock = some g → wr.heap.size ≤ g := fun g hg => by injection hg with hg; exact Nat.le_of_eq hg
          have B4 := below_then hB b4
          have hs4 := B4.size
          have o4' := o4.mono hsz
          go_wp2_with (at_builtin; refine wpList_appSS _ rfl _ _ rfl wr w.heap.size _ _ _ rfl hown b4 _ _ o4' hut rfl rfl hlen hs4 ?_)
          intro v5 w5 o5 g5 a5
          have B5 : Below w.heap.size w w5 := B4.grown g5 hs4 (fun g hg => (hown.lt g hg).1)
          clear o4 o4' hown g5 a5 b4 B4 hut hB
          rw [HR.out] at o5
          go_wp2_with fail
          go_roundw
          case rel => exact ⟨k + 1, by omega, by go_num, o5, B5⟩
          case measure => simp [intOf]; omega
        · have hke : k = m := by omega
          have hki : ¬ (k : Int) < (m : Int) := by omega
          have HOW := Lib.hid (show OwSS wr w.heap.size wr.heap.size _ (jtF (stN a.toList) (stN b.toList) m (ps.take 0)) from by rw [List.take_zero, jtF_nil, ← hke]; rw [hke] at hown ⊢; exact hown)
          have hlm : (jtF (stN a.toList) (stN b.toList) m (ps.take 0)).length = m := by rw [List.take_zero, jtF_nil, List.length_replicate]
          obtain ⟨vA, vc, hve⟩ := HOW.out.shape
          rw [hlm] at hve
          subst hve
          clear hown hlm
          go_wp2_with fail
          refine (HP.out _).mono ?_; rintro e w4 ⟨r4, rfl, o4, b4⟩
          have HO4 := Lib.hid (HOW.out.up b4)
          have B4 := below_then hB b4
          have o4 := o4.mono hsz
          rcases o4.shape with ⟨_, e⟩ | ⟨g, cap, rfl, _⟩
          · rw [e] at hp0; simp at hp0
          have HL4 := Lib.hid o4
          clear o4 b4 HOW hB hke
          go_wp2_with fail
          go_loopw [16] (fun i wr => ∃ j : Nat, j ≤ ps.length ∧ i = .int .i64 (j : Int) ∧ OwSS wr w.heap.size wr.heap.size (.slice vA m vc) (jtF (stN a.toList) (stN b.toList) m (ps.take j)) ∧ Below w.heap.size w wr ∧ OwR 9 sf wr w.heap.size (.slice (some ⟨g, 0, none⟩) ps.length cap) ps) (fun i _ => ps.length - (intOf i).toNat)
          case atStart => exact ⟨0, by omega, rfl, HO4.out, B4, HL4.out⟩
          case round =>
            clear HO4 B4 HL4 hki
            obtain ⟨j, hj, rfl, hown, hB, hL⟩ := hrel
            by_cases hjl : j < ps.length
            · have c1 : wr.cell? ⟨g, j, none⟩ = some (.string (S ps[j])) := hL.cellAt j hjl
              have hmem := List.getElem_mem hjl
              obtain ⟨ea, _⟩ := stN_eq (HD.out ps[j] hmem) HIA.out
              obtain ⟨eb, _⟩ := stN_eq (HD.out ps[j] hmem) HIB.out
              have h16 := (HD.out ps[j] hmem).1
              have hst := HJ.out ps[j] hmem
              have hok : JtOk (jtF (stN a.toList) (stN b.toList) m (ps.take j)) m ((ps.take j).length : Int) := jtF_ok _ (fun x hx => HJ.out x (List.mem_of_mem_take hx))
              have HT := Lib.hid (show jtF (stN a.toList) (stN b.toList) m (ps.take (j + 1)) = inc2 (jtF (stN a.toList) (stN b.toList) m (ps.take j)) (stN a.toList ps[j]) (stN b.toList ps[j]) by rw [take_succ_get _ _ hjl, jtF_snoc])
              have htl : (ps.take j).length ≤ 4096 := by rw [List.length_take]; omega
              generalize hpk : ps[j] = word at c1 ea eb h16 hst HT
              have hsw : (S word).size ≤ 1099511627776 := by rw [S_size]; omega
              have HEA := Lib.hid (show statV a.toList (L (S word)) = ((stN a.toList word : Nat) : Int) by rw [L_S]; exact ea)
              have HEB := Lib.hid (show statV b.toList (L (S word)) = ((stN b.toList word : Nat) : Int) by rw [L_S]; exact eb)
              obtain ⟨hsa, hsb⟩ := hst
              generalize stN a.toList word = sa at HEA HT hsa
              generalize stN b.toList word = sb at HEB HT hsb
              generalize jtF (stN a.toList) (stN b.toList) m (ps.take j) = tb at hown HT hok
              generalize (ps.take j).length = tl at hok htl
              have htlen := hok.len
              have hrlen := hok.row sa hsa
              have hval := hok.val sa sb hsa hsb
              have hsat : sa < tb.length := by omega
              have hsai : (sa : Int) < (m : Int) := by omega
              have hsbi : (sb : Int) < (m : Int) := by omega
              have HOW := Lib.hid hown
              have HLk := Lib.hid hL
              have HBk := Lib.hid hB
              clear hok hpk ea eb h16 hmem hown hL hB
              obtain ⟨tg, htg, _, _⟩ := HOW.out.at_ (by omega)
              subst htg
              have hsbi' : sb < m := hsb
              obtain ⟨u, hu1, hu2, _⟩ := HOW.out.row_at hsat
              obtain ⟨ug, ucap, rfl⟩ := hu2.shapeP (by rw [hrlen]; omega)
              have htgl := (HOW.out.lt tg rfl).2
              have hugl := (hu2.lt ug rfl).2
              have hcu := hu2.cellAt sb (by rw [hrlen]; exact hsbi')
              rw [hrlen] at hu1
              rw [getD_of (show sb < (rowOf tb sa).length by rw [hrlen]; exact hsbi')] at hval
              have hyy : ∃ y, y = (rowOf tb sa)[sb]'(by rw [hrlen]; exact hsbi') := ⟨_, rfl⟩
              obtain ⟨y, hy⟩ := hyy
              rw [← hy] at hcu hval
              have ew : wrap64 (y + 1) = y + 1 := IntWalk.wrap64_in _ ⟨by omega, by omega⟩
              have HFIN : Hid (∀ w6, Below wr.heap.size wr w6 → w6.cell? ⟨tg, sa, none⟩ = some (.slice (some ⟨ug, 0, none⟩) m ucap) ∧ w6.cell? ⟨ug, sb, none⟩ = some (.int .i64 y) ∧ w6.frozen? ⟨ug, sb, none⟩ = false ∧
                  OwSS (w6.setCell ⟨ug, sb, none⟩ (.int .i64 (y + 1))) w.heap.size (w6.setCell ⟨ug, sb, none⟩ (.int .i64 (y + 1))).heap.size (.slice (some ⟨tg, 0, none⟩) m vc) (inc2 tb sa sb) ∧ Below w.heap.size w (w6.setCell ⟨ug, sb, none⟩ (.int .i64 (y + 1))) ∧
                  OwR 9 sf (w6.setCell ⟨ug, sb, none⟩ (.int .i64 (y + 1))) w.heap.size (.slice (some ⟨g, 0, none⟩) ps.length cap) ps) := Lib.hid (fun w6 b6 => by
                have e1 := (b6.cell (p := ⟨tg, sa, none⟩) htgl).trans hu1
                have e2 := (b6.cell (p := ⟨ug, sb, none⟩) hugl).trans hcu
                obtain ⟨u', f1, f2, f3⟩ := (HOW.out.up b6).row_at hsat
                rw [e1] at f1
                injection f1 with f1
                subst f1
                have hst := f2.stored sb (y + 1)
                have hap : Apart (.slice (some ⟨g, 0, none⟩) ps.length cap) (.slice (some ⟨ug, 0, none⟩) m ucap) := OwR.apart_of_type (HLk.out.below b6) (OwI_is.1 f2) (by decide)
                refine ⟨e1, e2, f2.frozenAt sb, ?_, (below_then HBk.out b6).setCell (p := ⟨ug, sb, none⟩) (f2.lt ug rfl).1 _, (HLk.out.below b6).other (u := .slice (some ⟨ug, 0, none⟩) m ucap) hst.2 hap⟩
                have hn := (f3 _ _ hst.1 hst.2).1.size
                unfold inc2
                rw [getD_of (show sb < (rowOf tb sa).length by rw [hrlen]; exact hsbi'), ← hy]
                exact hn)
              clear hu1 hu2 hcu hy HOW HBk hrlen hugl htgl
              have HCK := Lib.hid (HLk.out.lt g rfl).2
              go_wp2_with fail
              refine (specStatisticOf_any a _ _ ha hsw).mono ?_; rintro e w5 ⟨rfl, b5⟩
              rw [HEA.out]
              have c5 := (b5.cell (p := ⟨g, j, none⟩) HCK.out).trans c1
              go_wp2_with fail
              refine (specStatisticOf_any b _ _ hb hsw).mono ?_; rintro e w6 ⟨rfl, b6⟩
              rw [HEB.out]
              have b56 := below_then b5 b6
              obtain ⟨q1, q2, q3, q4, q5, q6⟩ := HFIN.out w6 b56
              have Q4 := Lib.hid q4
              have Q5 := Lib.hid q5
              have Q6 := Lib.hid q6
              clear q4 q5 q6 b5 b6 b56 c1 c5
              go_wp2_with fail
              go_region
              all_goals (
                go_wp2_with fail
                go_roundw
                case rel => exact ⟨j + 1, by omega, by go_num, by rw [HT.out]; first | exact Q4.out | (rw [ew]; exact Q4.out), by first | exact Q5.out | exact Q5.out.drew | (rw [ew]; exact Q5.out.drew), by first | exact Q6.out | (rw [ew]; exact Q6.out)⟩
                case measure => (simp [intOf]; try omega))
            · have hje : j = ps.length := by omega
              subst hje
              rw [List.take_length] at hown
              have HOWN := Lib.hid hown
              clear hown
              go_wp2_with fail
              go_ret2
              exact RetSSB.mk HV.out HOWN.out hB
    · go_enter Try.func120, Try.ntmps120
      go_wp2_with fail
      refine (HA.out _).mono ?_; rintro e w1 ⟨r1, rfl, o1, b1⟩
      obtain ⟨A1, c1, rfl, _⟩ := id o1.rd
      go_wp2_with fail
      refine (HB.out _).mono ?_; rintro e w2 ⟨r2, rfl, o2, b2⟩
      obtain ⟨A2, c2, rfl, _⟩ := id o2.rd
      have B2 := below_then b1 b2
      have hs2 := B2.size
      have sp0 := OwSS.empty2 w2 w.heap.size hs2
      have hB0 : Below w.heap.size w (w2.alloc (.cells #[] 33)) := B2.alloc hs2 _
      clear o1 o2 b1 b2 B2 hs2 HA HB
      go_wp2_with fail
      generalize w2.alloc (.cells #[] 33) = w3 at sp0 hB0 ⊢
      try rw [hmq]
      go_loopw [12, 14] (fun v i wr => ∃ k : Nat, k ≤ m ∧ i = .int .i64 (k : Int) ∧ OwSS wr w.heap.size wr.heap.size v (List.replicate k (List.replicate m (0 : Int))) ∧ Below w.heap.size w wr) (fun _ i _ => m - (intOf i).toNat)
      case atStart => exact ⟨0, by omega, rfl, sp0, hB0⟩
      case round =>
        clear sp0 hB0
        obtain ⟨k, hk, rfl, hown, hB⟩ := hrel
        have hsz := hB.size
        by_cases hlt : k < m
        · have hki : (k : Int) < (m : Int) := by omega
          have hlen : (List.replicate k (List.replicate m (0 : Int))).length < 1099511627776 := by simp; omega
          have HR := Lib.hid (show List.replicate k (List.replicate m (0 : Int)) ++ [List.replicate m 0] = List.replicate (k + 1) (List.replicate m 0) from (List.replicate_succ' (n := k) (a := List.replicate m (0 : Int))).symm)
          go_wp2_with (at_make; refine wpList_makeI _ rfl _ _ rfl _ _ _ _ m rfl rfl rfl rfl (by omega) ?_)
          intro w4 o4 b4
          have hut : ∀ g, (Value.slice (some ⟨wr.heap.size, 0, none⟩) m m).ownBlock = some g → wr.heap.size ≤ g := fun g hg => by injection hg with hg; exact Nat.le_of_eq hg
          have B4 := below_then hB b4
          have hs4 := B4.size
          have o4' := o4.mono hsz
          go_wp2_with (at_builtin; refine wpList_appSS _ rfl _ _ rfl wr w.heap.size _ _ _ rfl hown b4 _ _ o4' hut rfl rfl hlen hs4 ?_)
          intro v5 w5 o5 g5 a5
          have B5 : Below w.heap.size w w5 := B4.grown g5 hs4 (fun g hg => (hown.lt g hg).1)
          clear o4 o4' hown g5 a5 b4 B4 hut hB
          rw [HR.out] at o5
          go_wp2_with fail
          go_roundw
          case rel => exact ⟨k + 1, by omega, by go_num, o5, B5⟩
          case measure => simp [intOf]; omega
        · have hke : k = m := by omega
          have hki : ¬ (k : Int) < (m : Int) := by omega
          have HOW := Lib.hid (show OwSS wr w.heap.size wr.heap.size _ (jtF (stN a.toList) (stN b.toList) m (ps.take 0)) from by rw [List.take_zero, jtF_nil, ← hke]; rw [hke] at hown ⊢; exact hown)
          have hlm : (jtF (stN a.toList) (stN b.toList) m (ps.take 0)).length = m := by rw [List.take_zero, jtF_nil, List.length_replicate]
          obtain ⟨vA, vc, hve⟩ := HOW.out.shape
          rw [hlm] at hve
          subst hve
          clear hown hlm
          go_wp2_with fail
          refine (HP.out _).mono ?_; rintro e w4 ⟨r4, rfl, o4, b4⟩
          have HO4 := Lib.hid (HOW.out.up b4)
          have B4 := below_then hB b4
          have o4 := o4.mono hsz
          rcases o4.shape with ⟨_, e⟩ | ⟨g, cap, rfl, _⟩
          · rw [e] at hp0; simp at hp0
          have HL4 := Lib.hid o4
          clear o4 b4 HOW hB hke
          go_wp2_with fail
          go_loopw [16] (fun i wr => ∃ j : Nat, j ≤ ps.length ∧ i = .int .i64 (j : Int) ∧ OwSS wr w.heap.size wr.heap.size (.slice vA m vc) (jtF (stN a.toList) (stN b.toList) m (ps.take j)) ∧ Below w.heap.size w wr ∧ OwR 9 sf wr w.heap.size (.slice (some ⟨g, 0, none⟩) ps.length cap) ps) (fun i _ => ps.length - (intOf i).toNat)
          case atStart => exact ⟨0, by omega, rfl, HO4.out, B4, HL4.out⟩
          case round =>
            clear HO4 B4 HL4 hki
            obtain ⟨j, hj, rfl, hown, hB, hL⟩ := hrel
            by_cases hjl : j < ps.length
            · have c1 : wr.cell? ⟨g, j, none⟩ = some (.string (S ps[j])) := hL.cellAt j hjl
              have hmem := List.getElem_mem hjl
              obtain ⟨ea, _⟩ := stN_eq (HD.out ps[j] hmem) HIA.out
              obtain ⟨eb, _⟩ := stN_eq (HD.out ps[j] hmem) HIB.out
              have h16 := (HD.out ps[j] hmem).1
              have hst := HJ.out ps[j] hmem
              have hok : JtOk (jtF (stN a.toList) (stN b.toList) m (ps.take j)) m ((ps.take j).length : Int) := jtF_ok _ (fun x hx => HJ.out x (List.mem_of_mem_take hx))
              have HT := Lib.hid (show jtF (stN a.toList) (stN b.toList) m (ps.take (j + 1)) = inc2 (jtF (stN a.toList) (stN b.toList) m (ps.take j)) (stN a.toList ps[j]) (stN b.toList ps[j]) by rw [take_succ_get _ _ hjl, jtF_snoc])
              have htl : (ps.take j).length ≤ 4096 := by rw [List.length_take]; omega
              generalize hpk : ps[j] = word at c1 ea eb h16 hst HT
              have hsw : (S word).size ≤ 1099511627776 := by rw [S_size]; omega
              have HEA := Lib.hid (show statV a.toList (L (S word)) = ((stN a.toList word : Nat) : Int) by rw [L_S]; exact ea)
              have HEB := Lib.hid (show statV b.toList (L (S word)) = ((stN b.toList word : Nat) : Int) by rw [L_S]; exact eb)
              obtain ⟨hsa, hsb⟩ := hst
              generalize stN a.toList word = sa at HEA HT hsa
              generalize stN b.toList word = sb at HEB HT hsb
              generalize jtF (stN a.toList) (stN b.toList) m (ps.take j) = tb at hown HT hok
              generalize (ps.take j).length = tl at hok htl
              have htlen := hok.len
              have hrlen := hok.row sa hsa
              have hval := hok.val sa sb hsa hsb
              have hsat : sa < tb.length := by omega
              have hsai : (sa : Int) < (m : Int) := by omega
              have hsbi : (sb : Int) < (m : Int) := by omega
              have HOW := Lib.hid hown
              have HLk := Lib.hid hL
              have HBk := Lib.hid hB
              clear hok hpk ea eb h16 hmem hown hL hB
              obtain ⟨tg, htg, _, _⟩ := HOW.out.at_ (by omega)
              subst htg
              have hsbi' : sb < m := hsb
              obtain ⟨u, hu1, hu2, _⟩ := HOW.out.row_at hsat
              obtain ⟨ug, ucap, rfl⟩ := hu2.shapeP (by rw [hrlen]; omega)
              have htgl := (HOW.out.lt tg rfl).2
              have hugl := (hu2.lt ug rfl).2
              have hcu := hu2.cellAt sb (by rw [hrlen]; exact hsbi')
              rw [hrlen] at hu1
              rw [getD_of (show sb < (rowOf tb sa).length by rw [hrlen]; exact hsbi')] at hval
              have hyy : ∃ y, y = (rowOf tb sa)[sb]'(by rw [hrlen]; exact hsbi') := ⟨_, rfl⟩
              obtain ⟨y, hy⟩ := hyy
              rw [← hy] at hcu hval
              have ew : wrap64 (y + 1) = y + 1 := IntWalk.wrap64_in _ ⟨by omega, by omega⟩
              have HFIN : Hid (∀ w6, Below wr.heap.size wr w6 → w6.cell? ⟨tg, sa, none⟩ = some (.slice (some ⟨ug, 0, none⟩) m ucap) ∧ w6.cell? ⟨ug, sb, none⟩ = some (.int .i64 y) ∧ w6.frozen? ⟨ug, sb, none⟩ = false ∧
                  OwSS (w6.setCell ⟨ug, sb, none⟩ (.int .i64 (y + 1))) w.heap.size (w6.setCell ⟨ug, sb, none⟩ (.int .i64 (y + 1))).heap.size (.slice (some ⟨tg, 0, none⟩) m vc) (inc2 tb sa sb) ∧ Below w.heap.size w (w6.setCell ⟨ug, sb, none⟩ (.int .i64 (y + 1))) ∧
                  OwR 9 sf (w6.setCell ⟨ug, sb, none⟩ (.int .i64 (y + 1))) w.heap.size (.slice (some ⟨g, 0, none⟩) ps.length cap) ps) := Lib.hid (fun w6 b6 => by
                have e1 := (b6.cell (p := ⟨tg, sa, none⟩) htgl).trans hu1
                have e2 := (b6.cell (p := ⟨ug, sb, none⟩) hugl).trans hcu
                obtain ⟨u', f1, f2, f3⟩ := (HOW.out.up b6).row_at hsat
                rw [e1] at f1
                injection f1 with f1
                subst f1
                have hst := f2.stored sb (y + 1)
                have hap : Apart (.slice (some ⟨g, 0, none⟩) ps.length cap) (.slice (some ⟨ug, 0, none⟩) m ucap) := OwR.apart_of_type (HLk.out.below b6) (OwI_is.1 f2) (by decide)
                refine ⟨e1, e2, f2.frozenAt sb, ?_, (below_then HBk.out b6).setCell (p := ⟨ug, sb, none⟩) (f2.lt ug rfl).1 _, (HLk.out.below b6).other (u := .slice (some ⟨ug, 0, none⟩) m ucap) hst.2 hap⟩
                have hn := (f3 _ _ hst.1 hst.2).1.size
                unfold inc2
                rw [getD_of (show sb < (rowOf tb sa).length by rw [hrlen]; exact hsbi'), ← hy]
                exact hn)
              clear hu1 hu2 hcu hy HOW HBk hrlen hugl htgl
              have HCK := Lib.hid (HLk.out.lt g rfl).2
              go_wp2_with fail
              refine (specStatisticOf_any a _ _ ha hsw).mono ?_; rintro e w5 ⟨rfl, b5⟩
              rw [HEA.out]
              have c5 := (b5.cell (p := ⟨g, j, none⟩) HCK.out).trans c1
              go_wp2_with fail
              refine (specStatisticOf_any b _ _ hb hsw).mono ?_; rintro e w6 ⟨rfl, b6⟩
              rw [HEB.out]
              have b56 := below_then b5 b6
              obtain ⟨q1, q2, q3, q4, q5, q6⟩ := HFIN.out w6 b56
              have Q4 := Lib.hid q4
              have Q5 := Lib.hid q5
              have Q6 := Lib.hid q6
              clear q4 q5 q6 b5 b6 b56 c1 c5
              go_wp2_with fail
              go_region
              all_goals (
                go_wp2_with fail
                go_roundw
                case rel => exact ⟨j + 1, by omega, by go_num, by rw [HT.out]; first | exact Q4.out | (rw [ew]; exact Q4.out), by first | exact Q5.out | exact Q5.out.drew | (rw [ew]; exact Q5.out.drew), by first | exact Q6.out | (rw [ew]; exact Q6.out)⟩
                case measure => (simp [intOf]; try omega))
            · have hje : j = ps.length := by omega
              subst hje
              rw [List.take_length] at hown
              have HOWN := Lib.hid hown
              clear hown
              go_wp2_with fail
              go_ret2
              exact RetSSB.mk HV.out HOWN.out hB
  · have hor : (disV a.toList n).2 = false ∨ (disV b.toList n).2 = false := by
      rcases h1 : (disV a.toList n).2 with _ | _
      · exact .inl rfl
      · rcases h2 : (disV b.toList n).2 with _ | _
        · exact .inr rfl
        · exact absurd ⟨h1, h2⟩ hab
    have HV := Lib.hid (hno hor)
    clear hno hab
    generalize disV a.toList n = X at HA hor
    generalize disV b.toList n = Y at HB hor
    obtain ⟨xl, xt⟩ := X
    obtain ⟨yl, yt⟩ := Y
    simp only at hor
    rcases xt with _ | _
    · clear hor
      go_enter Try.func120, Try.ntmps120
      go_wp2_with fail
      refine (HA.out _).mono ?_; rintro e w1 ⟨r1, rfl, o1, b1⟩
      obtain ⟨A1, c1, rfl, _⟩ := id o1.rd
      go_wp2_with fail
      refine (HB.out _).mono ?_; rintro e w2 ⟨r2, rfl, o2, b2⟩
      obtain ⟨A2, c2, rfl, _⟩ := id o2.rd
      have B2 := below_then b1 b2
      have sp0 := OwSS.empty2 w2 w.heap.size B2.size
      go_wp2_with fail
      go_ret2
      exact RetSSB.mk HV.out sp0 (B2.alloc B2.size _)
    · rcases yt with _ | _
      · clear hor
        go_enter Try.func120, Try.ntmps120
        go_wp2_with fail
        refine (HA.out _).mono ?_; rintro e w1 ⟨r1, rfl, o1, b1⟩
        obtain ⟨A1, c1, rfl, _⟩ := id o1.rd
        go_wp2_with fail
        refine (HB.out _).mono ?_; rintro e w2 ⟨r2, rfl, o2, b2⟩
        obtain ⟨A2, c2, rfl, _⟩ := id o2.rd
        have B2 := below_then b1 b2
        have sp0 := OwSS.empty2 w2 w.heap.size B2.size
        go_wp2_with fail
        go_ret2
        exact RetSSB.mk HV.out sp0 (B2.alloc B2.size _)
      · rcases hor with h | h <;> cases h
set_option maxRecDepth 8000 in
set_option maxHeartbeats 3200000 in
theorem implJointTable_any (a b : ByteArray) (n : Int) (w : World) (ha : a.size ≤ 1099511627776) (hb : b.size ≤ 1099511627776) (hn : I64 n) :
    Calls Try.prog 121 #[.string a, .string b, .int .i64 n] w (RetSSB w (jtV a.toList b.toList n)) := by
  have HA := Lib.hid (fun wq => implDistributionOf_any a n wq ha hn)
  have HB := Lib.hid (fun wq => implDistributionOf_any b n wq hb hn)
  have hno := jtV_no (a := a.toList) (b := b.toList) (n := n)
  by_cases hab : (disV a.toList n).2 = true ∧ (disV b.toList n).2 = true
  · obtain ⟨h6, hia, hda⟩ := disV_yes hab.1
    obtain ⟨_, hib, hdb⟩ := disV_yes hab.2
    have HV := Lib.hid (jtV_yes hab.1 hab.2)
    have hla := disV_len (nm := a.toList) (n := n)
    have hlb := disV_len (nm := b.toList) (n := n)
    have hmm : ((jtM a.toList b.toList (pathsL n.toNat) : Nat) : Int) = max ((disV a.toList n).1.length : Int) ((disV b.toList n).1.length : Int) := by rw [hda, hdb]; unfold jtM; omega
    have hm1 := jtM_le hia hib (show n.toNat ≤ 6 by omega)
    have HP := Lib.hid (fun wq => implPathsOf_any n wq hn)
    rw [(pathsV_ok h6).1] at HP
    have hn6 : n.toNat ≤ 6 := by omega
    have hpl := pathsL_len hn6
    have hp0 := pathsL_pos n.toNat
    have HD := Lib.hid (fun x (hx : x ∈ pathsL n.toNat) => (pathsL_dyck hn6 hx).1)
    have HJ := Lib.hid (fun w (hw : w ∈ pathsL n.toNat) => jt_lt a.toList b.toList hw)
    have HIA := Lib.hid hia
    have HIB := Lib.hid hib
    generalize pathsL n.toNat = ps at HV HP hpl hp0 HD HJ hmm hm1
    generalize jtM a.toList b.toList ps = m at HV HJ hmm hm1
    obtain ⟨ha2, hb2⟩ := hab
    generalize disV a.toList n = X at HA ha2 hla hmm
    generalize disV b.toList n = Y at HB hb2 hlb hmm
    obtain ⟨xl, xt⟩ := X
    obtain ⟨yl, yt⟩ := Y
    simp only at ha2 hb2 hla hlb hmm
    subst ha2
    subst hb2
    clear hno h6 hda hdb hia hib hn6
    have hmx : (xl.length < yl.length ∧ (yl.length : Int) = (m : Int)) ∨ (yl.length ≤ xl.length ∧ (xl.length : Int) = (m : Int)) := by omega
    clear hmm
    rcases hmx with ⟨hcmp, hmq⟩ | ⟨hcmp, hmq⟩
    · go_enter Try.func121, Try.ntmps121
      go_wp2_with fail
      refine (HA.out _).mono ?_; rintro e w1 ⟨r1, rfl, o1, b1⟩
      obtain ⟨A1, c1, rfl, _⟩ := id o1.rd
      go_wp2_with fail
      refine (HB.out _).mono ?_; rintro e w2 ⟨r2, rfl, o2, b2⟩
      obtain ⟨A2, c2, rfl, _⟩ := id o2.rd
      have B2 := below_then b1 b2
      have hs2 := B2.size
      have sp0 := OwSS.empty2 w2 w.heap.size hs2
      have hB0 : Below w.heap.size w (w2.alloc (.cells #[] 33)) := B2.alloc hs2 _
      clear o1 o2 b1 b2 B2 hs2 HA HB
      go_wp2_with fail
      generalize w2.alloc (.cells #[] 33) = w3 at sp0 hB0 ⊢
      try rw [hmq]
      go_loopw [13, 42] (fun v i wr => ∃ k : Nat, k ≤ m ∧ i = .int .i64 (k : Int) ∧ OwSS wr w.heap.size wr.heap.size v (List.replicate k (List.replicate m (0 : Int))) ∧ Below w.heap.size w wr) (fun _ i _ => m - (intOf i).toNat)
      case atStart => exact ⟨0, by omega, rfl, sp0, hB0⟩
      case round =>
        clear sp0 hB0
        obtain ⟨k, hk, rfl, hown, hB⟩ := hrel
        have hsz := hB.size
        by_cases hlt : k < m
        · have hki : (k : Int) < (m : Int) := by omega
          have hlen : (List.replicate k (List.replicate m (0 : Int))).length < 1099511627776 := by simp; omega
          have HR := Lib.hid (show List.replicate k (List.replicate m (0 : Int)) ++ [List.replicate m 0] = List.replicate (k + 1) (List.replicate m 0) from (List.replicate_succ' (n := k) (a := List.replicate m (0 : Int))).symm)
          go_wp2_with (at_make; refine wpList_makeI _ rfl _ _ rfl _ _ _ _ m rfl rfl rfl rfl (by omega) ?_)
          intro w4 o4 b4
          have hut : ∀ g, (Value.slice (some ⟨wr.heap.size, 0, none⟩) m m).ownBlock = some g → wr.heap.size ≤ g := fun g hg => by injection hg with hg; exact Nat.le_of_eq hg
          have B4 := below_then hB b4
          have hs4 := B4.size
          have o4' := o4.mono hsz
          go_wp2_with (at_builtin; refine wpList_appSS _ rfl _ _ rfl wr w.heap.size _ _ _ rfl hown b4 _ _ o4' hut rfl rfl hlen hs4 ?_)
          intro v5 w5 o5 g5 a5
          have B5 : Below w.heap.size w w5 := B4.grown g5 hs4 (fun g hg => (hown.lt g hg).1)
          clear o4 o4' hown g5 a5 b4 B4 hut hB
          rw [HR.out] at o5
          go_wp2_with fail
          go_roundw
          case rel => exact ⟨k + 1, by omega, by go_num, o5, B5⟩
          case measure => simp [intOf]; omega
        · have hke : k = m := by omega
          have hki : ¬ (k : Int) < (m : Int) := by omega
          have HOW := Lib.hid (show OwSS wr w.heap.size wr.heap.size _ (jtF (stN a.toList) (stN b.toList) m (ps.take 0)) from by rw [List.take_zero, jtF_nil, ← hke]; rw [hke] at hown ⊢; exact hown)
          have hlm : (jtF (stN a.toList) (stN b.toList) m (ps.take 0)).length = m := by rw [List.take_zero, jtF_nil, List.length_replicate]
          obtain ⟨vA, vc, hve⟩ := HOW.out.shape
          rw [hlm] at hve
          subst hve
          clear hown hlm
          go_wp2_with fail
          refine (HP.out _).mono ?_; rintro e w4 ⟨r4, rfl, o4, b4⟩
          have HO4 := Lib.hid (HOW.out.up b4)
          have B4 := below_then hB b4
          have o4 := o4.mono hsz
          rcases o4.shape with ⟨_, e⟩ | ⟨g, cap, rfl, _⟩
          · rw [e] at hp0; simp at hp0
          have HL4 := Lib.hid o4
          clear o4 b4 HOW hB hke
          go_wp2_with fail
          go_loopw [53] (fun i wr => ∃ j : Nat, j ≤ ps.length ∧ i = .int .i64 (j : Int) ∧ OwSS wr w.heap.size wr.heap.size (.slice vA m vc) (jtF (stN a.toList) (stN b.toList) m (ps.take j)) ∧ Below w.heap.size w wr ∧ OwR 9 sf wr w.heap.size (.slice (some ⟨g, 0, none⟩) ps.length cap) ps) (fun i _ => ps.length - (intOf i).toNat)
          case atStart => exact ⟨0, by omega, rfl, HO4.out, B4, HL4.out⟩
          case round =>
            clear HO4 B4 HL4 hki
            obtain ⟨j, hj, rfl, hown, hB, hL⟩ := hrel
            by_cases hjl : j < ps.length
            · have c1 : wr.cell? ⟨g, j, none⟩ = some (.string (S ps[j])) := hL.cellAt j hjl
              have hmem := List.getElem_mem hjl
              obtain ⟨ea, _⟩ := stN_eq (HD.out ps[j] hmem) HIA.out
              obtain ⟨eb, _⟩ := stN_eq (HD.out ps[j] hmem) HIB.out
              have h16 := (HD.out ps[j] hmem).1
              have hst := HJ.out ps[j] hmem
              have hok : JtOk (jtF (stN a.toList) (stN b.toList) m (ps.take j)) m ((ps.take j).length : Int) := jtF_ok _ (fun x hx => HJ.out x (List.mem_of_mem_take hx))
              have HT := Lib.hid (show jtF (stN a.toList) (stN b.toList) m (ps.take (j + 1)) = inc2 (jtF (stN a.toList) (stN b.toList) m (ps.take j)) (stN a.toList ps[j]) (stN b.toList ps[j]) by rw [take_succ_get _ _ hjl, jtF_snoc])
              have htl : (ps.take j).length ≤ 4096 := by rw [List.length_take]; omega
              generalize hpk : ps[j] = word at c1 ea eb h16 hst HT
              have hsw : (S word).size ≤ 1099511627776 := by rw [S_size]; omega
              have HEA := Lib.hid (show statV a.toList (L (S word)) = ((stN a.toList word : Nat) : Int) by rw [L_S]; exact ea)
              have HEB := Lib.hid (show statV b.toList (L (S word)) = ((stN b.toList word : Nat) : Int) by rw [L_S]; exact eb)
              obtain ⟨hsa, hsb⟩ := hst
              generalize stN a.toList word = sa at HEA HT hsa
              generalize stN b.toList word = sb at HEB HT hsb
              generalize jtF (stN a.toList) (stN b.toList) m (ps.take j) = tb at hown HT hok
              generalize (ps.take j).length = tl at hok htl
              have htlen := hok.len
              have hrlen := hok.row sa hsa
              have hval := hok.val sa sb hsa hsb
              have hsat : sa < tb.length := by omega
              have hsai : (sa : Int) < (m : Int) := by omega
              have hsbi : (sb : Int) < (m : Int) := by omega
              have HOW := Lib.hid hown
              have HLk := Lib.hid hL
              have HBk := Lib.hid hB
              clear hok hpk ea eb h16 hmem hown hL hB
              obtain ⟨tg, htg, _, _⟩ := HOW.out.at_ (by omega)
              subst htg
              have hsbi' : sb < m := hsb
              obtain ⟨u, hu1, hu2, _⟩ := HOW.out.row_at hsat
              obtain ⟨ug, ucap, rfl⟩ := hu2.shapeP (by rw [hrlen]; omega)
              have htgl := (HOW.out.lt tg rfl).2
              have hugl := (hu2.lt ug rfl).2
              have hcu := hu2.cellAt sb (by rw [hrlen]; exact hsbi')
              rw [hrlen] at hu1
              rw [getD_of (show sb < (rowOf tb sa).length by rw [hrlen]; exact hsbi')] at hval
              have hyy : ∃ y, y = (rowOf tb sa)[sb]'(by rw [hrlen]; exact hsbi') := ⟨_, rfl⟩
              obtain ⟨y, hy⟩ := hyy
              rw [← hy] at hcu hval
              have ew : wrap64 (y + 1) = y + 1 := IntWalk.wrap64_in _ ⟨by omega, by omega⟩
              have HFIN : Hid (∀ w6, Below wr.heap.size wr w6 → w6.cell? ⟨tg, sa, none⟩ = some (.slice (some ⟨ug, 0, none⟩) m ucap) ∧ w6.cell? ⟨ug, sb, none⟩ = some (.int .i64 y) ∧ w6.frozen? ⟨ug, sb, none⟩ = false ∧
                  OwSS (w6.setCell ⟨ug, sb, none⟩ (.int .i64 (y + 1))) w.heap.size (w6.setCell ⟨ug, sb, none⟩ (.int .i64 (y + 1))).heap.size (.slice (some ⟨tg, 0, none⟩) m vc) (inc2 tb sa sb) ∧ Below w.heap.size w (w6.setCell ⟨ug, sb, none⟩ (.int .i64 (y + 1))) ∧
                  OwR 9 sf (w6.setCell ⟨ug, sb, none⟩ (.int .i64 (y + 1))) w.heap.size (.slice (some ⟨g, 0, none⟩) ps.length cap) ps) := Lib.hid (fun w6 b6 => by
                have e1 := (b6.cell (p := ⟨tg, sa, none⟩) htgl).trans hu1
                have e2 := (b6.cell (p := ⟨ug, sb, none⟩) hugl).trans hcu
                obtain ⟨u', f1, f2, f3⟩ := (HOW.out.up b6).row_at hsat
                rw [e1] at f1
                injection f1 with f1
                subst f1
                have hst := f2.stored sb (y + 1)
                have hap : Apart (.slice (some ⟨g, 0, none⟩) ps.length cap) (.slice (some ⟨ug, 0, none⟩) m ucap) := OwR.apart_of_type (HLk.out.below b6) (OwI_is.1 f2) (by decide)
                refine ⟨e1, e2, f2.frozenAt sb, ?_, (below_then HBk.out b6).setCell (p := ⟨ug, sb, none⟩) (f2.lt ug rfl).1 _, (HLk.out.below b6).other (u := .slice (some ⟨ug, 0, none⟩) m ucap) hst.2 hap⟩
                have hn := (f3 _ _ hst.1 hst.2).1.size
                unfold inc2
                rw [getD_of (show sb < (rowOf tb sa).length by rw [hrlen]; exact hsbi'), ← hy]
                exact hn)
              clear hu1 hu2 hcu hy HOW HBk hrlen hugl htgl
              obtain ⟨q1, q2, q3, _, _, _⟩ := HFIN.out wr (Below.refl _ _)
              go_wp2_with fail
              go_region_law (first
                  | (go_simp
                     go_at_call_of 209 (Value.string a)
                     refine (implStatisticOf_any a _ w5 ha hsw).mono ?_
                     rintro e w6 ⟨rfl, bb⟩
                     rw [HEA.out]
                     have b6 : Below wr.heap.size wr w6 := below_then b5 bb
                     obtain ⟨q1s, q2s, q3s, q4s, q5s, q6s⟩ := HFIN.out w6 b6
                     have Q4s := Lib.hid q4s
                     have Q5s := Lib.hid q5s
                     have Q6s := Lib.hid q6s
                     clear q4s q5s q6s)
                  | (go_simp
                     go_at_call_of 209 (Value.string b)
                     refine (implStatisticOf_any b _ w5 hb hsw).mono ?_
                     rintro e w6 ⟨rfl, bb⟩
                     rw [HEB.out]
                     have b6 : Below wr.heap.size wr w6 := below_then b5 bb
                     obtain ⟨q1s, q2s, q3s, q4s, q5s, q6s⟩ := HFIN.out w6 b6
                     have Q4s := Lib.hid q4s
                     have Q5s := Lib.hid q5s
                     have Q6s := Lib.hid q6s
                     clear q4s q5s q6s)
                  | (go_simp
                     go_at_call_of 209 (Value.string a)
                     refine (implStatisticOf_any a _ wr.drew ha hsw).mono ?_
                     rintro e w5 ⟨rfl, bb⟩
                     rw [HEA.out]
                     have b5 : Below wr.heap.size wr w5 := ⟨bb.os, bb.tape, bb.output, bb.size, bb.block⟩
                     obtain ⟨q1f, q2f, q3f, q4f, q5f, q6f⟩ := HFIN.out w5 b5
                     have Q4f := Lib.hid q4f
                     have Q5f := Lib.hid q5f
                     have Q6f := Lib.hid q6f
                     clear q4f q5f q6f)
                  | (go_simp
                     go_at_call_of 209 (Value.string b)
                     refine (implStatisticOf_any b _ wr.drew hb hsw).mono ?_
                     rintro e w5 ⟨rfl, bb⟩
                     rw [HEB.out]
                     have b5 : Below wr.heap.size wr w5 := ⟨bb.os, bb.tape, bb.output, bb.size, bb.block⟩
                     obtain ⟨q1f, q2f, q3f, q4f, q5f, q6f⟩ := HFIN.out w5 b5
                     have Q4f := Lib.hid q4f
                     have Q5f := Lib.hid q5f
                     have Q6f := Lib.hid q6f
                     clear q4f q5f q6f))
              all_goals (
                clear q1 q2 q3 q1f q2f q3f Q4f Q5f Q6f q1s q2s q3s b5 b6
                go_wp2_with fail
                go_roundw
                case rel => exact ⟨j + 1, by omega, by go_num, by rw [HT.out]; first | exact Q4s.out | (rw [ew]; exact Q4s.out), by first | exact Q5s.out | exact Q5s.out.drew | (rw [ew]; exact Q5s.out) | (rw [ew]; exact Q5s.out.drew), by first | exact Q6s.out | (rw [ew]; exact Q6s.out)⟩
                case measure => (simp [intOf]; try omega))
            · have hje : j = ps.length := by omega
              subst hje
              rw [List.take_length] at hown
              have HOWN := Lib.hid hown
              clear hown
              go_wp2_with fail
              go_ret2
              exact RetSSB.mk HV.out HOWN.out hB
    · go_enter Try.func121, Try.ntmps121
      go_wp2_with fail
      refine (HA.out _).mono ?_; rintro e w1 ⟨r1, rfl, o1, b1⟩
      obtain ⟨A1, c1, rfl, _⟩ := id o1.rd
      go_wp2_with fail
      refine (HB.out _).mono ?_; rintro e w2 ⟨r2, rfl, o2, b2⟩
      obtain ⟨A2, c2, rfl, _⟩ := id o2.rd
      have B2 := below_then b1 b2
      have hs2 := B2.size
      have sp0 := OwSS.empty2 w2 w.heap.size hs2
      have hB0 : Below w.heap.size w (w2.alloc (.cells #[] 33)) := B2.alloc hs2 _
      clear o1 o2 b1 b2 B2 hs2 HA HB
      go_wp2_with fail
      generalize w2.alloc (.cells #[] 33) = w3 at sp0 hB0 ⊢
      try rw [hmq]
      go_loopw [13, 42] (fun v i wr => ∃ k : Nat, k ≤ m ∧ i = .int .i64 (k : Int) ∧ OwSS wr w.heap.size wr.heap.size v (List.replicate k (List.replicate m (0 : Int))) ∧ Below w.heap.size w wr) (fun _ i _ => m - (intOf i).toNat)
      case atStart => exact ⟨0, by omega, rfl, sp0, hB0⟩
      case round =>
        clear sp0 hB0
        obtain ⟨k, hk, rfl, hown, hB⟩ := hrel
        have hsz := hB.size
        by_cases hlt : k < m
        · have hki : (k : Int) < (m : Int) := by omega
          have hlen : (List.replicate k (List.replicate m (0 : Int))).length < 1099511627776 := by simp; omega
          have HR := Lib.hid (show List.replicate k (List.replicate m (0 : Int)) ++ [List.replicate m 0] = List.replicate (k + 1) (List.replicate m 0) from (List.replicate_succ' (n := k) (a := List.replicate m (0 : Int))).symm)
          go_wp2_with (at_make; refine wpList_makeI _ rfl _ _ rfl _ _ _ _ m rfl rfl rfl rfl (by omega) ?_)
          intro w4 o4 b4
          have hut : ∀ g, (Value.slice (some ⟨wr.heap.size, 0, none⟩) m m).ownBlock = some g → wr.heap.size ≤ g := fun g hg => by injection hg with hg; exact Nat.le_of_eq hg
          have B4 := below_then hB b4
          have hs4 := B4.size
          have o4' := o4.mono hsz
          go_wp2_with (at_builtin; refine wpList_appSS _ rfl _ _ rfl wr w.heap.size _ _ _ rfl hown b4 _ _ o4' hut rfl rfl hlen hs4 ?_)
          intro v5 w5 o5 g5 a5
          have B5 : Below w.heap.size w w5 := B4.grown g5 hs4 (fun g hg => (hown.lt g hg).1)
          clear o4 o4' hown g5 a5 b4 B4 hut hB
          rw [HR.out] at o5
          go_wp2_with fail
          go_roundw
          case rel => exact ⟨k + 1, by omega, by go_num, o5, B5⟩
          case measure => simp [intOf]; omega
        · have hke : k = m := by omega
          have hki : ¬ (k : Int) < (m : Int) := by omega
          have HOW := Lib.hid (show OwSS wr w.heap.size wr.heap.size _ (jtF (stN a.toList) (stN b.toList) m (ps.take 0)) from by rw [List.take_zero, jtF_nil, ← hke]; rw [hke] at hown ⊢; exact hown)
          have hlm : (jtF (stN a.toList) (stN b.toList) m (ps.take 0)).length = m := by rw [List.take_zero, jtF_nil, List.length_replicate]
          obtain ⟨vA, vc, hve⟩ := HOW.out.shape
          rw [hlm] at hve
          subst hve
          clear hown hlm
          go_wp2_with fail
          refine (HP.out _).mono ?_; rintro e w4 ⟨r4, rfl, o4, b4⟩
          have HO4 := Lib.hid (HOW.out.up b4)
          have B4 := below_then hB b4
          have o4 := o4.mono hsz
          rcases o4.shape with ⟨_, e⟩ | ⟨g, cap, rfl, _⟩
          · rw [e] at hp0; simp at hp0
          have HL4 := Lib.hid o4
          clear o4 b4 HOW hB hke
          go_wp2_with fail
          go_loopw [53] (fun i wr => ∃ j : Nat, j ≤ ps.length ∧ i = .int .i64 (j : Int) ∧ OwSS wr w.heap.size wr.heap.size (.slice vA m vc) (jtF (stN a.toList) (stN b.toList) m (ps.take j)) ∧ Below w.heap.size w wr ∧ OwR 9 sf wr w.heap.size (.slice (some ⟨g, 0, none⟩) ps.length cap) ps) (fun i _ => ps.length - (intOf i).toNat)
          case atStart => exact ⟨0, by omega, rfl, HO4.out, B4, HL4.out⟩
          case round =>
            clear HO4 B4 HL4 hki
            obtain ⟨j, hj, rfl, hown, hB, hL⟩ := hrel
            by_cases hjl : j < ps.length
            · have c1 : wr.cell? ⟨g, j, none⟩ = some (.string (S ps[j])) := hL.cellAt j hjl
              have hmem := List.getElem_mem hjl
              obtain ⟨ea, _⟩ := stN_eq (HD.out ps[j] hmem) HIA.out
              obtain ⟨eb, _⟩ := stN_eq (HD.out ps[j] hmem) HIB.out
              have h16 := (HD.out ps[j] hmem).1
              have hst := HJ.out ps[j] hmem
              have hok : JtOk (jtF (stN a.toList) (stN b.toList) m (ps.take j)) m ((ps.take j).length : Int) := jtF_ok _ (fun x hx => HJ.out x (List.mem_of_mem_take hx))
              have HT := Lib.hid (show jtF (stN a.toList) (stN b.toList) m (ps.take (j + 1)) = inc2 (jtF (stN a.toList) (stN b.toList) m (ps.take j)) (stN a.toList ps[j]) (stN b.toList ps[j]) by rw [take_succ_get _ _ hjl, jtF_snoc])
              have htl : (ps.take j).length ≤ 4096 := by rw [List.length_take]; omega
              generalize hpk : ps[j] = word at c1 ea eb h16 hst HT
              have hsw : (S word).size ≤ 1099511627776 := by rw [S_size]; omega
              have HEA := Lib.hid (show statV a.toList (L (S word)) = ((stN a.toList word : Nat) : Int) by rw [L_S]; exact ea)
              have HEB := Lib.hid (show statV b.toList (L (S word)) = ((stN b.toList word : Nat) : Int) by rw [L_S]; exact eb)
              obtain ⟨hsa, hsb⟩ := hst
              generalize stN a.toList word = sa at HEA HT hsa
              generalize stN b.toList word = sb at HEB HT hsb
              generalize jtF (stN a.toList) (stN b.toList) m (ps.take j) = tb at hown HT hok
              generalize (ps.take j).length = tl at hok htl
              have htlen := hok.len
              have hrlen := hok.row sa hsa
              have hval := hok.val sa sb hsa hsb
              have hsat : sa < tb.length := by omega
              have hsai : (sa : Int) < (m : Int) := by omega
              have hsbi : (sb : Int) < (m : Int) := by omega
              have HOW := Lib.hid hown
              have HLk := Lib.hid hL
              have HBk := Lib.hid hB
              clear hok hpk ea eb h16 hmem hown hL hB
              obtain ⟨tg, htg, _, _⟩ := HOW.out.at_ (by omega)
              subst htg
              have hsbi' : sb < m := hsb
              obtain ⟨u, hu1, hu2, _⟩ := HOW.out.row_at hsat
              obtain ⟨ug, ucap, rfl⟩ := hu2.shapeP (by rw [hrlen]; omega)
              have htgl := (HOW.out.lt tg rfl).2
              have hugl := (hu2.lt ug rfl).2
              have hcu := hu2.cellAt sb (by rw [hrlen]; exact hsbi')
              rw [hrlen] at hu1
              rw [getD_of (show sb < (rowOf tb sa).length by rw [hrlen]; exact hsbi')] at hval
              have hyy : ∃ y, y = (rowOf tb sa)[sb]'(by rw [hrlen]; exact hsbi') := ⟨_, rfl⟩
              obtain ⟨y, hy⟩ := hyy
              rw [← hy] at hcu hval
              have ew : wrap64 (y + 1) = y + 1 := IntWalk.wrap64_in _ ⟨by omega, by omega⟩
              have HFIN : Hid (∀ w6, Below wr.heap.size wr w6 → w6.cell? ⟨tg, sa, none⟩ = some (.slice (some ⟨ug, 0, none⟩) m ucap) ∧ w6.cell? ⟨ug, sb, none⟩ = some (.int .i64 y) ∧ w6.frozen? ⟨ug, sb, none⟩ = false ∧
                  OwSS (w6.setCell ⟨ug, sb, none⟩ (.int .i64 (y + 1))) w.heap.size (w6.setCell ⟨ug, sb, none⟩ (.int .i64 (y + 1))).heap.size (.slice (some ⟨tg, 0, none⟩) m vc) (inc2 tb sa sb) ∧ Below w.heap.size w (w6.setCell ⟨ug, sb, none⟩ (.int .i64 (y + 1))) ∧
                  OwR 9 sf (w6.setCell ⟨ug, sb, none⟩ (.int .i64 (y + 1))) w.heap.size (.slice (some ⟨g, 0, none⟩) ps.length cap) ps) := Lib.hid (fun w6 b6 => by
                have e1 := (b6.cell (p := ⟨tg, sa, none⟩) htgl).trans hu1
                have e2 := (b6.cell (p := ⟨ug, sb, none⟩) hugl).trans hcu
                obtain ⟨u', f1, f2, f3⟩ := (HOW.out.up b6).row_at hsat
                rw [e1] at f1
                injection f1 with f1
                subst f1
                have hst := f2.stored sb (y + 1)
                have hap : Apart (.slice (some ⟨g, 0, none⟩) ps.length cap) (.slice (some ⟨ug, 0, none⟩) m ucap) := OwR.apart_of_type (HLk.out.below b6) (OwI_is.1 f2) (by decide)
                refine ⟨e1, e2, f2.frozenAt sb, ?_, (below_then HBk.out b6).setCell (p := ⟨ug, sb, none⟩) (f2.lt ug rfl).1 _, (HLk.out.below b6).other (u := .slice (some ⟨ug, 0, none⟩) m ucap) hst.2 hap⟩
                have hn := (f3 _ _ hst.1 hst.2).1.size
                unfold inc2
                rw [getD_of (show sb < (rowOf tb sa).length by rw [hrlen]; exact hsbi'), ← hy]
                exact hn)
              clear hu1 hu2 hcu hy HOW HBk hrlen hugl htgl
              obtain ⟨q1, q2, q3, _, _, _⟩ := HFIN.out wr (Below.refl _ _)
              go_wp2_with fail
              go_region_law (first
                  | (go_simp
                     go_at_call_of 209 (Value.string a)
                     refine (implStatisticOf_any a _ w5 ha hsw).mono ?_
                     rintro e w6 ⟨rfl, bb⟩
                     rw [HEA.out]
                     have b6 : Below wr.heap.size wr w6 := below_then b5 bb
                     obtain ⟨q1s, q2s, q3s, q4s, q5s, q6s⟩ := HFIN.out w6 b6
                     have Q4s := Lib.hid q4s
                     have Q5s := Lib.hid q5s
                     have Q6s := Lib.hid q6s
                     clear q4s q5s q6s)
                  | (go_simp
                     go_at_call_of 209 (Value.string b)
                     refine (implStatisticOf_any b _ w5 hb hsw).mono ?_
                     rintro e w6 ⟨rfl, bb⟩
                     rw [HEB.out]
                     have b6 : Below wr.heap.size wr w6 := below_then b5 bb
                     obtain ⟨q1s, q2s, q3s, q4s, q5s, q6s⟩ := HFIN.out w6 b6
                     have Q4s := Lib.hid q4s
                     have Q5s := Lib.hid q5s
                     have Q6s := Lib.hid q6s
                     clear q4s q5s q6s)
                  | (go_simp
                     go_at_call_of 209 (Value.string a)
                     refine (implStatisticOf_any a _ wr.drew ha hsw).mono ?_
                     rintro e w5 ⟨rfl, bb⟩
                     rw [HEA.out]
                     have b5 : Below wr.heap.size wr w5 := ⟨bb.os, bb.tape, bb.output, bb.size, bb.block⟩
                     obtain ⟨q1f, q2f, q3f, q4f, q5f, q6f⟩ := HFIN.out w5 b5
                     have Q4f := Lib.hid q4f
                     have Q5f := Lib.hid q5f
                     have Q6f := Lib.hid q6f
                     clear q4f q5f q6f)
                  | (go_simp
                     go_at_call_of 209 (Value.string b)
                     refine (implStatisticOf_any b _ wr.drew hb hsw).mono ?_
                     rintro e w5 ⟨rfl, bb⟩
                     rw [HEB.out]
                     have b5 : Below wr.heap.size wr w5 := ⟨bb.os, bb.tape, bb.output, bb.size, bb.block⟩
                     obtain ⟨q1f, q2f, q3f, q4f, q5f, q6f⟩ := HFIN.out w5 b5
                     have Q4f := Lib.hid q4f
                     have Q5f := Lib.hid q5f
                     have Q6f := Lib.hid q6f
                     clear q4f q5f q6f))
              all_goals (
                clear q1 q2 q3 q1f q2f q3f Q4f Q5f Q6f q1s q2s q3s b5 b6
                go_wp2_with fail
                go_roundw
                case rel => exact ⟨j + 1, by omega, by go_num, by rw [HT.out]; first | exact Q4s.out | (rw [ew]; exact Q4s.out), by first | exact Q5s.out | exact Q5s.out.drew | (rw [ew]; exact Q5s.out) | (rw [ew]; exact Q5s.out.drew), by first | exact Q6s.out | (rw [ew]; exact Q6s.out)⟩
                case measure => (simp [intOf]; try omega))
            · have hje : j = ps.length := by omega
              subst hje
              rw [List.take_length] at hown
              have HOWN := Lib.hid hown
              clear hown
              go_wp2_with fail
              go_ret2
              exact RetSSB.mk HV.out HOWN.out hB
  · have hor : (disV a.toList n).2 = false ∨ (disV b.toList n).2 = false := by
      rcases h1 : (disV a.toList n).2 with _ | _
      · exact .inl rfl
      · rcases h2 : (disV b.toList n).2 with _ | _
        · exact .inr rfl
        · exact absurd ⟨h1, h2⟩ hab
    have HV := Lib.hid (hno hor)
    clear hno hab
    generalize disV a.toList n = X at HA hor
    generalize disV b.toList n = Y at HB hor
    obtain ⟨xl, xt⟩ := X
    obtain ⟨yl, yt⟩ := Y
    simp only at hor
    rcases xt with _ | _
    · clear hor
      go_enter Try.func121, Try.ntmps121
      go_wp2_with fail
      refine (HA.out _).mono ?_; rintro e w1 ⟨r1, rfl, o1, b1⟩
      obtain ⟨A1, c1, rfl, _⟩ := id o1.rd
      go_wp2_with fail
      refine (HB.out _).mono ?_; rintro e w2 ⟨r2, rfl, o2, b2⟩
      obtain ⟨A2, c2, rfl, _⟩ := id o2.rd
      have B2 := below_then b1 b2
      have sp0 := OwSS.empty2 w2 w.heap.size B2.size
      go_wp2_with fail
      go_ret2
      exact RetSSB.mk HV.out sp0 (B2.alloc B2.size _)
    · rcases yt with _ | _
      · clear hor
        go_enter Try.func121, Try.ntmps121
        go_wp2_with fail
        refine (HA.out _).mono ?_; rintro e w1 ⟨r1, rfl, o1, b1⟩
        obtain ⟨A1, c1, rfl, _⟩ := id o1.rd
        go_wp2_with fail
        refine (HB.out _).mono ?_; rintro e w2 ⟨r2, rfl, o2, b2⟩
        obtain ⟨A2, c2, rfl, _⟩ := id o2.rd
        have B2 := below_then b1 b2
        have sp0 := OwSS.empty2 w2 w.heap.size B2.size
        go_wp2_with fail
        go_ret2
        exact RetSSB.mk HV.out sp0 (B2.alloc B2.size _)
      · rcases hor with h | h <;> cases h
/-- whether a joint table is there and is its own mirror -/
def isV (a b : List UInt8) (n : Int) : Bool := (jtV a b n).2 && symB (jtV a b n).1
theorem jtV_sq (a b : List UInt8) (n : Int) : (∀ i, i < (jtV a b n).1.length → (rowOf (jtV a b n).1 i).length = (jtV a b n).1.length) ∧ (jtV a b n).1.length ≤ 1000 := by
  unfold jtV
  split
  · rename_i h
    have hn : n.toNat ≤ 6 := by omega
    have ho := jtF_ok (f := stN a) (g := stN b) (m := jtM a b (pathsL n.toNat)) (pathsL n.toNat) (fun w hw => jt_lt a b hw)
    refine ⟨fun i hi => ?_, ?_⟩
    · have hi' : i < jtM a b (pathsL n.toNat) := by have := ho.len; exact this ▸ hi
      rw [ho.row i hi', ho.len]
    · rw [ho.len]; exact jtM_le h.2.1 h.2.2 hn
  · exact ⟨fun i hi => by simp at hi, by simp⟩
set_option maxHeartbeats 1600000 in
theorem specIsJointlySymmetric_any (a b : ByteArray) (n : Int) (w : World) (ha : a.size ≤ 1099511627776) (hb : b.size ≤ 1099511627776) (hn : I64 n) :
    Calls Try.prog 118 #[.string a, .string b, .int .i64 n] w fun e w' => e = .returned (.bool (isV a.toList b.toList n)) ∧ Below w.heap.size w w' := by
  have HJ := Lib.hid (specJointTable_any a b n w ha hb hn)
  obtain ⟨hsq, hle⟩ := jtV_sq a.toList b.toList n
  unfold isV
  generalize jtV a.toList b.toList n = X at HJ hsq hle ⊢
  obtain ⟨T, ok⟩ := X
  simp only at hsq hle ⊢
  have HSQ := Lib.hid hsq
  clear hsq
  go_enter Try.func118, Try.ntmps118
  go_wp2_with fail
  refine HJ.out.mono ?_; rintro e w1 ⟨r, rfl, o1, b1⟩
  have HRD := Lib.hid o1.rd
  have HB := Lib.hid b1
  obtain ⟨A, c, rfl, _⟩ := id o1.rd
  clear o1 b1 HJ
  go_wp2_with fail
  go_loopw [9] (fun i wr => ∃ k : Nat, k ≤ T.length ∧ i = .int .i64 (k : Int) ∧ Hid (∀ x y, x < k → y < x → (rowOf T x).getD y 0 = (rowOf T y).getD x 0) ∧ ∃ q, wr = w1.drewN q) (fun i _ => T.length - (intOf i).toNat)
  case atStart => exact ⟨0, by omega, rfl, Lib.hid (fun x y h _ => absurd h (by omega)), 0, rfl⟩
  case round =>
    obtain ⟨k, hk, rfl, HS, q, rfl⟩ := hrel
    by_cases hlt : k < T.length
    · have hki : (k : Int) < (T.length : Int) := by omega
      go_wp2_with fail
      go_loopw [10] (fun i wr => ∃ j : Nat, j ≤ k ∧ i = .int .i64 (j : Int) ∧ Hid (∀ y, y < j → (rowOf T k).getD y 0 = (rowOf T y).getD k 0) ∧ ∃ q, wr = w1.drewN q) (fun i _ => T.length - (intOf i).toNat)
      case atStart => exact ⟨0, by omega, rfl, Lib.hid (fun y h => absurd h (by omega)), q, rfl⟩
      case round =>
        obtain ⟨j, hj, rfl, HT, q2, rfl⟩ := hrel
        by_cases hjl : j < k
        · have hjT : j < T.length := by omega
          have hjTi : (j : Int) < (T.length : Int) := by omega
          have hjk : (j : Int) < (k : Nat) := by omega
          obtain ⟨b0, o0, rfl, hb0, hcl⟩ := HRD.out.at_ (by omega)
          obtain ⟨u1, cu1, ru1⟩ := hcl k hlt
          obtain ⟨u2, cu2, ru2⟩ := hcl j hjT
          have l1 : T[k].length = T.length := by have := HSQ.out k hlt; rwa [rowOf_get hlt] at this
          have l2 : T[j].length = T.length := by have := HSQ.out j hjT; rwa [rowOf_get hjT] at this
          obtain ⟨A1, c1, rfl, _⟩ := id ru1
          obtain ⟨A2, c2, rfl, _⟩ := id ru2
          obtain ⟨b1, o1, rfl, _, h1⟩ := ru1.at_ (by omega)
          obtain ⟨b2, o2, rfl, _, h2⟩ := ru2.at_ (by omega)
          have d1 := h1 j (by omega)
          have d2 := h2 k (by omega)
          have HX := Lib.hid (show (rowOf T k).getD j 0 = T[k][j]'(by omega) by rw [rowOf_get hlt, getD_of (by omega)])
          have HY := Lib.hid (show (rowOf T j).getD k 0 = T[j][k]'(by omega) by rw [rowOf_get hjT, getD_of (by omega)])
          rw [l1] at cu1
          rw [l2] at cu2
          generalize T[k][j]'(by omega) = X at d1 HX
          generalize T[j][k]'(by omega) = Y at d2 HY
          clear hcl ru1 ru2 h1 h2 l1 l2 HRD
          by_cases hXY : X = Y
          · have f1 : (X != Y) = false := by simp [hXY]
            have HN := Lib.hid (show ∀ y, y < j + 1 → (rowOf T k).getD y 0 = (rowOf T y).getD k 0 from fun y hy => by
              rcases Nat.lt_or_ge y j with h | h
              · exact HT.out y h
              · obtain rfl : y = j := by omega
                rw [HX.out, HY.out, hXY])
            clear hXY
            go_wp2_with fail
            go_quiet (fail)
            go_wp2_with fail
            go_roundw
            case rel => exact ⟨j + 1, by omega, by go_num, HN, _, rfl⟩
            case measure => simp [intOf]; omega
          · have f1 : (X != Y) = true := bne_iff_ne.2 hXY
            have HN := Lib.hid (symB_not hlt hjT (by rw [HX.out, HY.out]; exact hXY))
            clear hXY
            go_wp2_with fail
            go_quiet (fail)
            go_wp2_with fail
            go_ret
            exact ⟨ret_bool (by rw [HN.out]; simp), by rw [drewN_two]; exact below_drewN HB.out _⟩
        · have HN := Lib.hid (show ∀ x y, x < k + 1 → y < x → (rowOf T x).getD y 0 = (rowOf T y).getD x 0 from fun x y hx hy => by
            rcases Nat.lt_or_ge x k with h | h
            · exact HS.out x y h hy
            · obtain rfl : x = k := by omega
              exact HT.out y (by omega))
          have hjk : ¬ (j : Int) < (k : Nat) := by omega
          go_wp2_with fail
          go_roundw
          case rel => exact ⟨k + 1, by omega, by go_num, HN, _, rfl⟩
          case measure => simp [intOf]; omega
    · have HN := Lib.hid (symB_of (t := T) (fun x y hx hy => by
        rcases Nat.lt_trichotomy x y with h | h | h
        · exact (HS.out y x (by omega) h).symm
        · subst h; rfl
        · exact HS.out x y (by omega) h))
      have hki : ¬ (k : Int) < (T.length : Int) := by omega
      go_wp2_with fail
      go_ret
      exact ⟨ret_bool (by simp [HN.out]), below_drewN HB.out _⟩
set_option maxHeartbeats 1600000 in
theorem implIsJointlySymmetric_any (a b : ByteArray) (n : Int) (w : World) (ha : a.size ≤ 1099511627776) (hb : b.size ≤ 1099511627776) (hn : I64 n) :
    Calls Try.prog 119 #[.string a, .string b, .int .i64 n] w fun e w' => e = .returned (.bool (isV a.toList b.toList n)) ∧ Below w.heap.size w w' := by
  have HJ := Lib.hid (implJointTable_any a b n w ha hb hn)
  obtain ⟨hsq, hle⟩ := jtV_sq a.toList b.toList n
  unfold isV
  generalize jtV a.toList b.toList n = X at HJ hsq hle ⊢
  obtain ⟨T, ok⟩ := X
  simp only at hsq hle ⊢
  have HSQ := Lib.hid hsq
  clear hsq
  go_enter Try.func119, Try.ntmps119
  go_wp2_with fail
  refine HJ.out.mono ?_; rintro e w1 ⟨r, rfl, o1, b1⟩
  have HRD := Lib.hid o1.rd
  have HB := Lib.hid b1
  obtain ⟨A, c, rfl, _⟩ := id o1.rd
  clear o1 b1 HJ
  rcases ok with _ | _
  · go_wp2_with fail
    go_ret
    exact ⟨ret_bool rfl, HB.out⟩
  · go_wp2_with fail
    go_loopw [22] (fun i wr => ∃ k : Nat, k ≤ T.length ∧ i = .int .i64 (k : Int) ∧ Hid (∀ x y, x < k → y < T.length → (rowOf T x).getD y 0 = (rowOf T y).getD x 0) ∧ ∃ q, wr = w1.drewN q) (fun i _ => T.length - (intOf i).toNat)
    case atStart => exact ⟨0, by omega, rfl, Lib.hid (fun x y h _ => absurd h (by omega)), 0, rfl⟩
    case round =>
      obtain ⟨k, hk, rfl, HS, q, rfl⟩ := hrel
      by_cases hlt : k < T.length
      · have hki : (k : Int) < (T.length : Int) := by omega
        go_wp2_with fail
        go_loopw [27] (fun i wr => ∃ j : Nat, j ≤ T.length ∧ i = .int .i64 (j : Int) ∧ Hid (∀ y, y < j → (rowOf T k).getD y 0 = (rowOf T y).getD k 0) ∧ ∃ q, wr = w1.drewN q) (fun i _ => T.length - (intOf i).toNat)
        case atStart => exact ⟨0, by omega, rfl, Lib.hid (fun y h => absurd h (by omega)), q, rfl⟩
        case round =>
          obtain ⟨j, hj, rfl, HT, q2, rfl⟩ := hrel
          by_cases hjl : j < T.length
          · have hjT : j < T.length := by omega
            have hjTi : (j : Int) < (T.length : Int) := by omega
            have hjk : (j : Int) < (T.length : Nat) := by omega
            obtain ⟨b0, o0, rfl, hb0, hcl⟩ := HRD.out.at_ (by omega)
            obtain ⟨u1, cu1, ru1⟩ := hcl k hlt
            obtain ⟨u2, cu2, ru2⟩ := hcl j hjT
            have l1 : T[k].length = T.length := by have := HSQ.out k hlt; rwa [rowOf_get hlt] at this
            have l2 : T[j].length = T.length := by have := HSQ.out j hjT; rwa [rowOf_get hjT] at this
            obtain ⟨A1, c1, rfl, _⟩ := id ru1
            obtain ⟨A2, c2, rfl, _⟩ := id ru2
            obtain ⟨b1, o1, rfl, _, h1⟩ := ru1.at_ (by omega)
            obtain ⟨b2, o2, rfl, _, h2⟩ := ru2.at_ (by omega)
            have d1 := h1 j (by omega)
            have d2 := h2 k (by omega)
            have HX := Lib.hid (show (rowOf T k).getD j 0 = T[k][j]'(by omega) by rw [rowOf_get hlt, getD_of (by omega)])
            have HY := Lib.hid (show (rowOf T j).getD k 0 = T[j][k]'(by omega) by rw [rowOf_get hjT, getD_of (by omega)])
            rw [l1] at cu1
            rw [l2] at cu2
            generalize T[k][j]'(by omega) = X at d1 HX
            generalize T[j][k]'(by omega) = Y at d2 HY
            clear hcl ru1 ru2 h1 h2 l1 l2 HRD
            by_cases hXY : X = Y
            · have f1 : (X != Y) = false := by simp [hXY]
              have HN := Lib.hid (show ∀ y, y < j + 1 → (rowOf T k).getD y 0 = (rowOf T y).getD k 0 from fun y hy => by
                rcases Nat.lt_or_ge y j with h | h
                · exact HT.out y h
                · obtain rfl : y = j := by omega
                  rw [HX.out, HY.out, hXY])
              clear hXY
              go_wp2_with fail
              go_quiet (fail)
              go_wp2_with fail
              go_roundw
              case rel => exact ⟨j + 1, by omega, by go_num, HN, _, rfl⟩
              case measure => simp [intOf]; omega
            · have f1 : (X != Y) = true := bne_iff_ne.2 hXY
              have HN := Lib.hid (symB_not hlt hjT (by rw [HX.out, HY.out]; exact hXY))
              clear hXY
              go_wp2_with fail
              go_quiet (fail)
              go_wp2_with fail
              go_ret
              exact ⟨ret_bool (by rw [HN.out]; simp), by rw [drewN_two]; exact below_drewN HB.out _⟩
          · have HN := Lib.hid (show ∀ x y, x < k + 1 → y < T.length → (rowOf T x).getD y 0 = (rowOf T y).getD x 0 from fun x y hx hy => by
              rcases Nat.lt_or_ge x k with h | h
              · exact HS.out x y h hy
              · obtain rfl : x = k := by omega
                exact HT.out y (by omega))
            have hjk : ¬ (j : Int) < (T.length : Nat) := by omega
            go_wp2_with fail
            go_roundw
            case rel => exact ⟨k + 1, by omega, by go_num, HN, _, rfl⟩
            case measure => simp [intOf]; omega
      · have HN := Lib.hid (symB_of (t := T) (fun x y hx hy => HS.out x y (by omega) (by omega)))
        have hki : ¬ (k : Int) < (T.length : Int) := by omega
        go_wp2_with fail
        go_ret
        exact ⟨ret_bool (by simp [HN.out]), below_drewN HB.out _⟩
end Go.Proofs.Ytngfkajfbgfncaa
