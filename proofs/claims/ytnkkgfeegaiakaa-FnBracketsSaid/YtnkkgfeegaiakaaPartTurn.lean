/- Contracts of TurnPartition, the program's and the reference's. No condition. -/
import Derived.Test.YtnkkgfeegaiakaaPart
import Derived.Test.YtnkkgfeegaiakaaRenum
import Derived.Deep.RegionLaw
namespace Go.Proofs.Ytnkkgfeegaiakaa
open Go.RowKit
def tpL (p : List Int) : List Int := p.getD (p.length - 1) 0 :: p.take (p.length - 1)
def tpR (p : List Int) : List Int × Bool := if PartP p then (if p.length = 0 then ([], true) else (rnL (tpL p), true)) else ([], false)
theorem tpL_len {p : List Int} (h : p.length ≠ 0) : (tpL p).length = p.length := by simp [tpL]; omega
set_option maxRecDepth 8000 in
/-- a whole slice appended, as a step of a region that draws -/
theorem step_appN (wr : World) {ops : Array Oper} {o : Oper} {a : Act} {K : Act → World → Prop} {Q : Exit → Act → World → Prop} {E : Prop} (hgd : o.guard = none) (s x : Operand)
    (ho : o.op = .call { callee := .builtin .append, args := #[s, x], argTypes := #[38, 38] })
    (base : Nat) (v : Value) (xs ys : List Int) (hs : a.eval s = v) (hown : OwI wr base v xs) (b off m c : Nat)
    (hx : a.eval x = .slice (some ⟨b, off, none⟩) m c) (hm : ys.length = m) (hc : ∀ j (h : j < ys.length), wr.cell? ⟨b, off + j, none⟩ = some (.int .i64 ys[j])) (hlen : xs.length + m ≤ 1099511627776) (hbase : base ≤ wr.heap.size)
    (h : ∀ v' w', OwI w' base v' (xs ++ ys) → wr.grownBy w' v.ownBlock → K (a.put o.dst v') w') :
    if Region.wanted o (yielded ops a.tmps) = true then Oper.wp Try.prog o a wr K Q else E := by
  obtain ⟨i0, hi, hz0, hz1, hz2⟩ := info_parts info_int
  have hw : Region.wanted o (yielded ops a.tmps) = true := by simp [Region.wanted, hgd]
  rw [if_pos hw]
  have hcell : ∀ j u, (ys.map (Value.int .i64))[j]? = some u → wr.cell? ((⟨b, off, none⟩ : Addr).add j) = some u := by
    intro j u hu
    rw [List.getElem?_map] at hu
    rcases Nat.lt_or_ge j ys.length with hj | hj
    · rw [List.getElem?_eq_getElem hj] at hu
      injection hu with hu
      subst hu
      have := hc j hj
      unfold Addr.add
      by_cases h0 : j = 0
      · subst h0; simpa using this
      · rw [if_neg h0]; exact this
    · rw [List.getElem?_eq_none hj] at hu; cases hu
  obtain ⟨v', w', hrun, h2, h3, h4, h5⟩ := run_append_own_at (P := Try.prog) wr base 38 o.type 3 i0 (.int .i64 0) 1 8 Try.underlying38 hi hz0 hz1 hz2 rfl (by omega) v xs.length (xs.map (Value.int .i64)) hown.1 ⟨b, off, none⟩ m c (ys.map (Value.int .i64)) (by simpa using hm) hcell
    (by intro u hu; obtain ⟨y, _, rfl⟩ := List.mem_map.1 hu; rfl) (by unfold maxLen; omega) (by omega) hbase
  unfold Oper.wp execOp
  simp only [ho, resolve, invoke, builtin, Sem.run_bind, Sem.run_pure, Result.andThen_ok, List.map_toArray, List.map_cons, List.map_nil, hs, hx, hrun]
  refine h v' w' ⟨?_, by rw [List.length_append]; omega⟩ h3
  rw [List.length_append, List.map_append, hm]
  exact h2
set_option maxRecDepth 8000 in
set_option maxHeartbeats 1000000 in
theorem specTurnPartition_any (v : Value) (p : List Int) (w : World) (hv : RdI w v p) :
    Calls Try.prog 92 #[v] w (RetIB w (tpR p)) := by
  have hv0 := hv
  obtain ⟨A, c, rfl, hc, hl, _⟩ := hv
  have HP0 := specIsPartition_any _ _ _ hv0
  by_cases hP : PartP p
  · simp only [decide_eq_true hP] at HP0
    have h8 := hP.1
    have HV := Lib.hid (show tpR p = if p.length = 0 then ([], true) else (rnL (tpL p), true) by unfold tpR; rw [if_pos hP])
    clear hP
    by_cases h0 : p.length = 0
    · have HV2 := Lib.hid (show tpR p = ([], true) by rw [HV.out, if_pos h0])
      rw [h0] at HP0 hc ⊢
      go_enter Try.func92, Try.ntmps92
      go_wp2_with fail
      refine HP0.mono ?_; rintro e w' ⟨rfl, rfl⟩
      go_wp2_with fail
      go_ret2
      exact RetIB.mk HV2.out (OwI.empty_ w _ (Nat.le_refl _)) ((Below.refl _ _).alloc (Nat.le_refl _) _)
    · have HV2 := Lib.hid (show tpR p = (rnL (tpL p), true) by rw [HV.out, if_neg h0])
      have f0 : ((p.length : Int) == 0) = false := beq_eq_false_iff_ne.2 (by omega)
      obtain ⟨n, hn⟩ : ∃ n, p.length = n + 1 := ⟨p.length - 1, by omega⟩
      obtain ⟨b, o, rfl, hb, hcl⟩ := hv0.at_ (by omega)
      have d0 := hcl n (by omega)
      obtain ⟨X, hX⟩ : ∃ X, X = p[n] := ⟨_, rfl⟩
      rw [← hX] at d0
      have HTL := Lib.hid (show tpL p = [X] ++ p.take n by
        have e : p.length - 1 = n := by omega
        unfold tpL; rw [e, getD_of (show n < p.length by omega), hX]; rfl)
      have hwr : IntKind.i64.wrap (n : Int) = (n : Int) := IntWalk.i64_in _ (by omega)
      have hw2 : (n : Int) + 1 - 1 = (n : Int) := by omega
      have g1 : (n : Int) < (n : Int) + 1 := by omega
      have hbX : Below w.heap.size w (w.drew.alloc (.cells #[.int .i64 X] 3)) := (below_draws w 1).alloc (Nat.le_refl _) _
      have hown : OwI (w.drew.alloc (.cells #[.int .i64 X] 3)) w.heap.size (.slice (some ⟨w.heap.size, 0, none⟩) 1 1) [X] := OwI.one w.drew X w.heap.size (Nat.le_refl _)
      have d0A : (w.alloc (.cells #[.int .i64 X] 3)).cell? ⟨b, o + n, none⟩ = some (.int .i64 X) := (((Below.refl _ _).alloc (Nat.le_refl _) _).cell (p := ⟨b, o + n, none⟩) hb).trans d0
      have hcc : ∀ j (h : j < (p.take n).length), (w.drew.alloc (.cells #[.int .i64 X] 3)).cell? ⟨b, o + j, none⟩ = some (.int .i64 (p.take n)[j]) := by
        intro j hj
        have hj' : j < n := by simp at hj; omega
        rw [(hbX.cell (p := ⟨b, o + j, none⟩) hb).trans (hcl j (by omega))]
        simp
      have htn : (p.take n).length = n := by simp; omega
      have hln : [X].length + n ≤ 1099511627776 := by simp; omega
      have hbs : w.heap.size ≤ (w.drew.alloc (.cells #[.int .i64 X] 3)).heap.size := hbX.size
      have hcap : n ≤ c := by omega
      have hcapI : (n : Int) ≤ (c : Int) := by omega
      have h100 : (tpL p).length ≤ 1000 := by rw [tpL_len h0]; omega
      have HCC := Lib.hid hcc
      clear hcl hcc
      have hN := hn
      rw [hn] at HP0 f0 hc
      rw [hn]
      clear hX
      go_enter Try.func92, Try.ntmps92
      go_wp2_with fail
      refine HP0.mono ?_; rintro e w' ⟨rfl, rfl⟩
      go_wp2_with fail
      go_region_law (first
        | refine step_appN (w.drew.alloc (.cells #[.int .i64 X] 3)) rfl (.tmp 18) (.tmp 23) rfl w.heap.size (.slice (some ⟨w.heap.size, 0, none⟩) 1 1) [X] (p.take n) (by simp [Act.eval, Act.put]) hown b o n c (by simp [Act.eval, Act.put]) htn HCC.out hln hbs ?_
          intro v' w2 o2 g2
          have hB2 : Below w.heap.size w w2 := hbX.grown g2 hbs (fun g hg => (hown.lt g hg).1)
          rw [← HTL.out] at o2
          clear g2
        | go_simp
          go_at_call 204
          refine (l8Renumber_any _ _ _ o2.rd h100).mono ?_
          rintro e w3 ⟨r, rfl, o3, b3⟩)
      all_goals (
        go_wp2_with fail
        go_ret2
        exact RetIB.mk HV2.out (o3.mono hB2.size) (below_then hB2 b3))
  · simp only [decide_eq_false hP] at HP0
    have HV := Lib.hid (show tpR p = ([], false) by unfold tpR; rw [if_neg hP])
    clear hP
    go_enter Try.func92, Try.ntmps92
    go_wp2_with fail
    refine HP0.mono ?_; rintro e w' ⟨rfl, rfl⟩
    go_wp2_with fail
    go_ret2
    exact RetIB.mk HV.out (OwI.empty_ w _ (Nat.le_refl _)) ((Below.refl _ _).alloc (Nat.le_refl _) _)
set_option maxRecDepth 8000 in
set_option maxHeartbeats 1000000 in
theorem implTurnPartition_any (v : Value) (p : List Int) (w : World) (hv : RdI w v p) :
    Calls Try.prog 91 #[v] w (RetIB w (tpR p)) := by
  have hv0 := hv
  obtain ⟨A, c, rfl, hc, hl, _⟩ := hv
  have HP0 := implIsPartition_any _ _ _ hv0
  by_cases hP : PartP p
  · simp only [decide_eq_true hP] at HP0
    have h8 := hP.1
    have HV := Lib.hid (show tpR p = if p.length = 0 then ([], true) else (rnL (tpL p), true) by unfold tpR; rw [if_pos hP])
    clear hP
    by_cases h0 : p.length = 0
    · have HV2 := Lib.hid (show tpR p = ([], true) by rw [HV.out, if_pos h0])
      rw [h0] at HP0 hc ⊢
      go_enter Try.func91, Try.ntmps91
      go_wp2_with fail
      refine HP0.mono ?_; rintro e w' ⟨rfl, rfl⟩
      go_wp2_with fail
      go_ret2
      exact RetIB.mk HV2.out (OwI.empty_ w _ (Nat.le_refl _)) ((Below.refl _ _).alloc (Nat.le_refl _) _)
    · have HV2 := Lib.hid (show tpR p = (rnL (tpL p), true) by rw [HV.out, if_neg h0])
      have f0 : ((p.length : Int) == 0) = false := beq_eq_false_iff_ne.2 (by omega)
      obtain ⟨n, hn⟩ : ∃ n, p.length = n + 1 := ⟨p.length - 1, by omega⟩
      obtain ⟨b, o, rfl, hb, hcl⟩ := hv0.at_ (by omega)
      have d0 := hcl n (by omega)
      obtain ⟨X, hX⟩ : ∃ X, X = p[n] := ⟨_, rfl⟩
      rw [← hX] at d0
      have HTL := Lib.hid (show tpL p = [X] ++ p.take n by
        have e : p.length - 1 = n := by omega
        unfold tpL; rw [e, getD_of (show n < p.length by omega), hX]; rfl)
      have hwr : IntKind.i64.wrap (n : Int) = (n : Int) := IntWalk.i64_in _ (by omega)
      have hw2 : (n : Int) + 1 - 1 = (n : Int) := by omega
      have g1 : (n : Int) < (n : Int) + 1 := by omega
      have hbX : Below w.heap.size w (w.drew.alloc (.cells #[.int .i64 X] 3)) := (below_draws w 1).alloc (Nat.le_refl _) _
      have hown : OwI (w.drew.alloc (.cells #[.int .i64 X] 3)) w.heap.size (.slice (some ⟨w.heap.size, 0, none⟩) 1 1) [X] := OwI.one w.drew X w.heap.size (Nat.le_refl _)
      have d0A : (w.alloc (.cells #[.int .i64 X] 3)).cell? ⟨b, o + n, none⟩ = some (.int .i64 X) := (((Below.refl _ _).alloc (Nat.le_refl _) _).cell (p := ⟨b, o + n, none⟩) hb).trans d0
      have hcc : ∀ j (h : j < (p.take n).length), (w.drew.alloc (.cells #[.int .i64 X] 3)).cell? ⟨b, o + j, none⟩ = some (.int .i64 (p.take n)[j]) := by
        intro j hj
        have hj' : j < n := by simp at hj; omega
        rw [(hbX.cell (p := ⟨b, o + j, none⟩) hb).trans (hcl j (by omega))]
        simp
      have htn : (p.take n).length = n := by simp; omega
      have hln : [X].length + n ≤ 1099511627776 := by simp; omega
      have hbs : w.heap.size ≤ (w.drew.alloc (.cells #[.int .i64 X] 3)).heap.size := hbX.size
      have hcap : n ≤ c := by omega
      have hcapI : (n : Int) ≤ (c : Int) := by omega
      have HV3 := Lib.hid (show rnR (tpL p) = tpR p by unfold rnR; rw [if_pos (by rw [tpL_len h0]; exact h8), HV2.out])
      have HCC := Lib.hid hcc
      clear hcl hcc
      have hN := hn
      rw [hn] at HP0 f0 hc
      rw [hn]
      clear hX
      go_enter Try.func91, Try.ntmps91
      go_wp2_with fail
      refine HP0.mono ?_; rintro e w' ⟨rfl, rfl⟩
      go_wp2_with fail
      go_region_law (first
        | refine step_appN (w.drew.alloc (.cells #[.int .i64 X] 3)) rfl (.tmp 18) (.tmp 23) rfl w.heap.size (.slice (some ⟨w.heap.size, 0, none⟩) 1 1) [X] (p.take n) (by simp [Act.eval, Act.put]) hown b o n c (by simp [Act.eval, Act.put]) htn HCC.out hln hbs ?_
          intro v' w2 o2 g2
          have hB2 : Below w.heap.size w w2 := hbX.grown g2 hbs (fun g hg => (hown.lt g hg).1)
          rw [← HTL.out] at o2
          clear g2
        | go_simp
          go_at_call 96
          refine (implRenumberBlocks_any _ _ _ o2.rd).mono ?_
          rintro e w3 ⟨r, rfl, o3, b3⟩)
      all_goals (
        go_wp2_with fail
        go_ret2
        exact RetIB.mk HV3.out.symm (o3.mono hB2.size) (below_then hB2 b3))
  · simp only [decide_eq_false hP] at HP0
    have HV := Lib.hid (show tpR p = ([], false) by unfold tpR; rw [if_neg hP])
    clear hP
    go_enter Try.func91, Try.ntmps91
    go_wp2_with fail
    refine HP0.mono ?_; rintro e w' ⟨rfl, rfl⟩
    go_wp2_with fail
    go_ret2
    exact RetIB.mk HV.out (OwI.empty_ w _ (Nat.le_refl _)) ((Below.refl _ _).alloc (Nat.le_refl _) _)
end Go.Proofs.Ytnkkgfeegaiakaa
