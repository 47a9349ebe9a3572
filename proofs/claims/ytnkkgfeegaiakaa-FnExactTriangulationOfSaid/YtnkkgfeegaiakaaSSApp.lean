/- Slices of slices that the call owns: a row more, a row grown; 'append' as a step of a region that draws. No condition. -/
import Derived.Test.YtnkkgfeegaiakaaSS
import Derived.Deep.RegionLaw
namespace Go.Proofs.Ytnkkgfeegaiakaa
open Go.RowKit
theorem step_appI (wr : World) {ops : Array Oper} {o : Oper} {a : Act} {K : Act → World → Prop} {Q : Exit → Act → World → Prop} {E : Prop} (hgd : o.guard = none) (s x : Operand)
    (ho : o.op = .call { callee := .builtin .append, args := #[s, x], argTypes := #[38, 38] })
    (base : Nat) (v : Value) (xs : List Int) (hs : a.eval s = v) (hown : OwI wr base v xs) (X : Int)
    {m : Nat} (hx : a.eval x = .slice (some ⟨m, 0, none⟩) 1 1) (hm : m = wr.heap.size) (hlen : xs.length < 1099511627776) (hbase : base ≤ wr.heap.size)
    (h : ∀ v' w', OwI w' base v' (xs ++ [X]) → wr.grownBy w' v.ownBlock → AppAt wr v v' (xs.length + 1) → K (a.put o.dst v') w') :
    if Region.wanted o (yielded ops a.tmps) = true then Oper.wp Try.prog o a (wr.alloc (.cells #[.int .i64 X] 3)) K Q else E := by
  obtain ⟨i0, hi, hz0, hz1, hz2⟩ := info_parts info_int
  have hw : Region.wanted o (yielded ops a.tmps) = true := by simp [Region.wanted, hgd]
  rw [if_pos hw]
  refine wp_app1 wr s x 38 ho base 3 i0 (.int .i64 0) 8 Try.underlying38 hi hz0 hz1 hz2 rfl v (xs.map (Value.int .i64)) hs (by simpa using hown.1) (.int .i64 X) rfl hx hm (by simp; omega) (by omega) hbase ?_
  intro v' w' h1 h2 h3
  exact h v' w' ⟨by simpa using h1, by simp; omega⟩ h2 (by simpa using h3)
section
variable {w w' : World} {base top top' : Nat} {v : Value} {xss : List (List Int)}
theorem OwSS.top_mono (h : OwSS w base top v xss) (ht : top ≤ top') : OwSS w base top' v xss := by
  obtain ⟨V, h1, h2, h3, h4, h5⟩ := h
  exact ⟨V, h1, h2, h3, fun g hg => Nat.lt_of_lt_of_le (h4 g hg) ht, fun i hi g hg => Nat.lt_of_lt_of_le (h5 i hi g hg) ht⟩
theorem OwSS.size (h : OwSS w base top v xss) : OwSS w base w.heap.size v xss := by
  obtain ⟨V, h1, h2, h3, _, _⟩ := h
  exact ⟨V, h1, h2, h3, fun g hg => (h1.lt g hg).2, fun i hi g hg => ((h2 i hi).lt g hg).2⟩
theorem OwSS.drewN_ (h : OwSS w base top v xss) (q : Nat) : OwSS (w.drewN q) base top v xss := h
theorem OwSS.empty_ (w : World) (base : Nat) (hb : base ≤ w.heap.size) : OwSS (w.alloc (.cells #[] 38)) base (w.heap.size + 1) (.slice (some ⟨w.heap.size, 0, none⟩) 0 0) [] := by
  refine ⟨fun _ => .slice none 0 0, ?_, (fun i hi => by simp at hi), (fun i j _ hj => by simp at hj), (fun g hg => ?_), (fun i hi => by simp at hi)⟩
  · exact OwR.lit (e := 38) (f := (id : Value → Value)) w [] base hb (by simp)
  · injection hg with hg; subst hg; show w.heap.size < w.heap.size + 1; omega
theorem OwSS.len (h : OwSS w base top v xss) : xss.length ≤ 1099511627776 := by
  obtain ⟨V, h1, _⟩ := h
  simpa using h1.2
theorem OwSS.shape (h : OwSS w base top v xss) : ∃ A c, v = .slice A xss.length c := by
  obtain ⟨A, c, e, _⟩ := h.rd
  exact ⟨A, c, e⟩
theorem OwSS.lt (h : OwSS w base top v xss) : ∀ g, v.ownBlock = some g → base ≤ g ∧ g < w.heap.size := by
  obtain ⟨V, h1, _⟩ := h
  exact h1.lt
theorem OwSS.at_ {A : Option Addr} {n c : Nat} (h : OwSS w base top (.slice A n c) xss) (h0 : 0 < xss.length) : ∃ g, A = some ⟨g, 0, none⟩ ∧ base ≤ g ∧ g < w.heap.size := by
  obtain ⟨V, h1, _⟩ := h
  rcases h1.shape with ⟨_, e⟩ | ⟨g, cap, e, hb, hl⟩
  · have : ((List.range xss.length).map V).length = 0 := by rw [e]; rfl
    rw [List.length_map, List.length_range] at this; omega
  · injection e with e1 e2 e3
    exact ⟨g, e1, hb, hl⟩
theorem rowOf_snoc_lt {xss : List (List Int)} {ys : List Int} {i : Nat} (h : i < xss.length) : rowOf (xss ++ [ys]) i = rowOf xss i := by
  simp [rowOf, List.getD, List.getElem?_append_left h]
theorem rowOf_snoc_eq (xss : List (List Int)) (ys : List Int) : rowOf (xss ++ [ys]) xss.length = ys := by simp [rowOf, List.getD]
theorem rowOf_set_eq {xss : List (List Int)} {ys : List Int} {j : Nat} (h : j < xss.length) : rowOf (xss.set j ys) j = ys := by simp [rowOf, List.getD, h]
theorem rowOf_set_ne {xss : List (List Int)} {ys : List Int} {i j : Nat} (h : i ≠ j) : rowOf (xss.set j ys) i = rowOf xss i := by
  simp [rowOf, List.getD, List.getElem?_set_ne (Ne.symm h)]
/-- a row more -/
theorem OwSS.app (h : OwSS w base top v xss) {w1 : World} (hb : Below w.heap.size w w1) {u : Value} {ys : List Int} (hu : OwI w1 base u ys) (hut : ∀ g, u.ownBlock = some g → w.heap.size ≤ g) :
    ∃ rows : List Value, rows.length = xss.length ∧ OwR 38 id w1 base v rows ∧
      ∀ v' w' n, OwR 38 id w' base v' (rows ++ [u]) → w1.grownBy w' v.ownBlock → AppAt w1 v v' n → OwSS w' base w'.heap.size v' (xss ++ [ys]) := by
  obtain ⟨V, ho, hr, hap, _, _⟩ := h
  have ho1 := ho.below hb
  refine ⟨(List.range xss.length).map V, by simp, ho1, fun v' w' n ho' hg hat => ?_⟩
  have hrows : (List.range (xss ++ [ys]).length).map (setF V xss.length u) = (List.range xss.length).map V ++ [u] := by
    rw [List.length_append, List.length_singleton, List.range_succ, List.map_append]
    congr 1
    · apply List.map_congr_left
      intro i hi
      rw [setF_ne _ _ (by have := List.mem_range.1 hi; omega)]
    · simp [setF_same]
  have hown : ∀ i, i < (xss ++ [ys]).length → OwI w' base (setF V xss.length u i) (rowOf (xss ++ [ys]) i) := by
    intro i hi
    by_cases e : i = xss.length
    · subst e
      rw [setF_same, rowOf_snoc_eq]
      have ha : Apart u v := OwR.apart_of_type (e := 3) (e' := 38) hu ho1 (by decide)
      exact OwR.other hu hg ha
    · have hi' : i < xss.length := by simp at hi; omega
      rw [setF_ne _ _ e, rowOf_snoc_lt hi']
      have hri := (hr i hi').below hb
      have ha : Apart (V i) v := OwR.apart_of_type (e := 3) (e' := 38) hri ho1 (by decide)
      exact OwR.other hri hg ha
  refine ⟨setF V xss.length u, by rw [hrows]; exact ho', hown, fun i j hij hj => ?_, fun g hg => (ho'.lt g hg).2, fun i hi g hg => ((hown i hi).lt g hg).2⟩
  by_cases e : j = xss.length
  · subst e
    rw [setF_same, setF_ne _ _ (by omega)]
    intro g h1 h2
    have := ((hr i (by omega)).lt g h1).2
    have := hut g h2
    omega
  · have hj' : j < xss.length := by simp at hj; omega
    rw [setF_ne _ _ e, setF_ne _ _ (by omega)]
    exact hap i j hij hj'
/-- a row grown in its place -/
theorem OwSS.row {g n c : Nat} (h : OwSS w base top (.slice (some ⟨g, 0, none⟩) n c) xss) {j : Nat} (hj : j < xss.length) :
    ∃ u, w.cell? ⟨g, j, none⟩ = some u ∧ OwI w base u (rowOf xss j) ∧
      ∀ u' w' ys m, OwI w' base u' ys → w.grownBy w' u.ownBlock → AppAt w u u' m →
        w'.frozen? ⟨g, j, none⟩ = false ∧ w'.cell? ⟨g, j, none⟩ = some u ∧ OwSS (w'.setCell ⟨g, j, none⟩ u') base w'.heap.size (.slice (some ⟨g, 0, none⟩) n c) (xss.set j ys) := by
  obtain ⟨V, ho, hr, hap, _, _⟩ := h
  have hjl : j < ((List.range xss.length).map V).length := by simpa using hj
  have hcell := ho.cellAt j hjl
  simp only [List.getElem_map, List.getElem_range, id] at hcell
  refine ⟨V j, hcell, hr j hj, fun u' w' ys m hu' hg hat => ?_⟩
  have hvo : Apart (V j) (.slice (some ⟨g, 0, none⟩) n c) := OwR.apart_of_type (e := 3) (e' := 38) (hr j hj) ho (by decide)
  have ho' := OwR.other ho hg hvo.symm
  have hc' := ho'.cellAt j hjl
  simp only [List.getElem_map, List.getElem_range, id] at hc'
  refine ⟨ho'.frozenAt j, hc', ?_⟩
  obtain ⟨hs1, hs2⟩ := ho'.stored j u'
  have hown : ∀ i, i < (xss.set j ys).length → OwI (w'.setCell ⟨g, j, none⟩ u') base (setF V j u' i) (rowOf (xss.set j ys) i) := by
    intro i hi
    rw [List.length_set] at hi
    by_cases e : i = j
    · subst e
      rw [setF_same, rowOf_set_eq hj]
      have ha : Apart u' (.slice (some ⟨g, 0, none⟩) n c) := OwR.apart_of_type (e := 3) (e' := 38) hu' ho' (by decide)
      exact OwR.other (u := .slice (some ⟨g, 0, none⟩) n c) hu' hs2 ha
    · rw [setF_ne _ _ e, rowOf_set_ne e]
      have h1 : Apart (V i) (V j) := by
        rcases Nat.lt_or_ge i j with h | h
        · exact hap i j h hj
        · exact (hap j i (by omega) hi).symm
      have h2 := OwR.other (hr i hi) hg h1
      have ha : Apart (V i) (.slice (some ⟨g, 0, none⟩) n c) := OwR.apart_of_type (e := 3) (e' := 38) h2 ho' (by decide)
      exact OwR.other (u := .slice (some ⟨g, 0, none⟩) n c) h2 hs2 ha
  have hsz : (w'.setCell ⟨g, j, none⟩ u').heap.size = w'.heap.size := by simp
  refine ⟨setF V j u', ?_, hown, fun i k hik hk => ?_, fun b hb => ?_, fun i hi b hb => ?_⟩
  · rw [List.length_set, map_range_set _ _ _ _ hj]
    exact hs1
  · rw [List.length_set] at hk
    have hX : ∀ i, i < xss.length → i ≠ j → Apart (V i) u' := by
      intro i hi hij b h1 h2
      have h1' : Apart (V i) (V j) := by
        rcases Nat.lt_or_ge i j with h | h
        · exact hap i j h hj
        · exact (hap j i (by omega) hi).symm
      rcases hat.1 with e | e
      · rw [e] at h2; exact h1' b h1 h2
      · rw [e] at h2; injection h2 with h2
        have := ((hr i hi).lt b h1).2
        omega
    by_cases ei : i = j
    · subst ei
      rw [setF_same, setF_ne _ _ (by omega)]
      exact (hX k hk (by omega)).symm
    · by_cases ek : k = j
      · subst ek
        rw [setF_same, setF_ne _ _ ei]
        exact hX i (by omega) ei
      · rw [setF_ne _ _ ei, setF_ne _ _ ek]
        exact hap i k hik hk
  · have := (ho'.lt b hb).2; omega
  · have := ((hown i hi).lt b hb).2; omega
end
/-- appending a row to a slice of slices -/
theorem wpList_appSS (wr : World) {ops : Array Oper} {rest : List Oper} {o : Oper} {a : Act} {Q : Exit → Act → World → Prop} (hgd : o.guard = none) (s x : Operand)
    (ho : o.op = .call { callee := .builtin .append, args := #[s, x], argTypes := #[22, 22] })
    (w : World) (base top : Nat) (v : Value) (xss : List (List Int)) (hs : a.eval s = v) (hown : OwSS w base top v xss) (hb : Below w.heap.size w wr) (u : Value) (ys : List Int) (hu : OwI wr base u ys) (hut : ∀ g, u.ownBlock = some g → w.heap.size ≤ g)
    {m : Nat} (hx : a.eval x = .slice (some ⟨m, 0, none⟩) 1 1) (hm : m = wr.heap.size) (hlen : xss.length < 1099511627776) (hbase : base ≤ wr.heap.size)
    (h : ∀ v' w', OwSS w' base w'.heap.size v' (xss ++ [ys]) → wr.grownBy w' v.ownBlock → AppAt wr v v' (xss.length + 1) → wpList Try.prog ops Q rest (a.put o.dst v') w') : wpList Try.prog ops Q (o :: rest) a (wr.alloc (.cells #[u] 38)) := by
  obtain ⟨rows, hl, ho', hk⟩ := hown.app hb hu hut
  have hone : u.oneCell' = true := by
    rcases hu.shape with ⟨rfl, _⟩ | ⟨g, cap, rfl, _⟩ <;> rfl
  refine wpList_appR (f := (id : Value → Value)) wr hgd s x 22 ho base 38 (.slice none 0 0) 24 Try.underlying22 info_slice rfl (by omega) v rows hs ho' u hone hx hm (by omega) hbase ?_
  intro v' w' h1 h2 h3
  rw [hl] at h3
  exact h v' w' (hk v' w' _ h1 h2 h3) h2 h3
/-- the same as a step of a region that draws -/
theorem step_appSS (wr : World) {ops : Array Oper} {o : Oper} {a : Act} {K : Act → World → Prop} {Q : Exit → Act → World → Prop} {E : Prop} (hgd : o.guard = none) (s x : Operand)
    (ho : o.op = .call { callee := .builtin .append, args := #[s, x], argTypes := #[22, 22] })
    (w : World) (base top : Nat) (v : Value) (xss : List (List Int)) (hs : a.eval s = v) (hown : OwSS w base top v xss) (hb : Below w.heap.size w wr) (u : Value) (ys : List Int) (hu : OwI wr base u ys) (hut : ∀ g, u.ownBlock = some g → w.heap.size ≤ g)
    {m : Nat} (hx : a.eval x = .slice (some ⟨m, 0, none⟩) 1 1) (hm : m = wr.heap.size) (hlen : xss.length < 1099511627776) (hbase : base ≤ wr.heap.size)
    (h : ∀ v' w', OwSS w' base w'.heap.size v' (xss ++ [ys]) → wr.grownBy w' v.ownBlock → AppAt wr v v' (xss.length + 1) → K (a.put o.dst v') w') :
    if Region.wanted o (yielded ops a.tmps) = true then Oper.wp Try.prog o a (wr.alloc (.cells #[u] 38)) K Q else E := by
  have hw : Region.wanted o (yielded ops a.tmps) = true := by simp [Region.wanted, hgd]
  rw [if_pos hw]
  obtain ⟨rows, hl, ho', hk⟩ := hown.app hb hu hut
  obtain ⟨i0, hi0, hz0, hz1, hz2⟩ := info_parts info_slice
  have hone : u.oneCell' = true := by
    rcases hu.shape with ⟨rfl, _⟩ | ⟨g, cap, rfl, _⟩ <;> rfl
  refine wp_app1 wr s x 22 ho base 38 i0 (.slice none 0 0) 24 Try.underlying22 hi0 hz0 hz1 hz2 rfl v (rows.map id) hs (by simpa using ho'.1) u hone hx hm (by simp; omega) (by omega) hbase ?_
  intro v' w' h1 h2 h3
  have h1' : OwR 38 id w' base v' (rows ++ [u]) := ⟨by simpa using h1, by simp; omega⟩
  rw [List.length_map, hl] at h3
  exact h v' w' (hk v' w' _ h1' h2 h3) h2 h3
end Go.Proofs.Ytnkkgfeegaiakaa
