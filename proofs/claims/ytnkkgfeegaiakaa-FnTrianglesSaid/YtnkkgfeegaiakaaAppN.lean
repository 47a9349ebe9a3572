/- Appending a whole row to a row that the call owns; copies of rows and of slices of rows. No condition but the sizes. -/
import Derived.Test.YtnkkgfeegaiakaaBlocks
namespace Go.Proofs.Ytnkkgfeegaiakaa
open Go.RowKit
theorem run_appNil {P : Program} (w : World) (base : Nat) (t ty e : TypeId) (i : TypeInfo) (size : Nat) (ht : P.underlying t = some (.slice e)) (hi : P.info? e = some i)
    (v : Value) (n : Nat) (xs : List Value) (hown : w.ownsRow base e size v n xs) (c : Nat) : (Builtin.append_ #[t, t] ty #[v, .slice none 0 c]).run P w = .ok v w := by
  rcases hown.2 with ⟨rfl, rfl⟩ | ⟨g, cap, cur, rfl, _, _, hnc, _⟩
  · simp [Builtin.append_, run_underlying ht, sizeOf, typeInfo, hi, Builtin.lenOf, Builtin.firstCells]
  · simp [Builtin.append_, run_underlying ht, sizeOf, typeInfo, hi, Builtin.lenOf, Builtin.firstCells, hnc, storeCells]
/-- 'append(s, x...)' -/
theorem wp_appRow {α : Type} {P : Program} {f : α → Value} (wr : World) {o : Oper} {a : Act} {K : Act → World → Prop} {Q : Exit → Act → World → Prop} (s x : Operand) (t : TypeId)
    (ho : o.op = .call { callee := .builtin .append, args := #[s, x], argTypes := #[t, t] })
    (base : Nat) (e : TypeId) (z : Value) (bytes : Nat) (ht : P.underlying t = some (.slice e)) (hi : (P.info? e).map (fun i => (i.zero, i.size, i.bytes)) = some (some z, 1, bytes)) (hzs : z.cells.size = 1) (hb : bytes ≤ 64)
    (v : Value) (xs ys : List α) (hs : a.eval s = v) (hown : OwR e f wr base v xs) (A : Option Addr) (c : Nat) (hx : a.eval x = .slice A ys.length c) (hrd : RdR f wr (.slice A ys.length c) ys)
    (hX : ∀ y, (f y).oneCell' = true) (hlen : xs.length + ys.length ≤ 1099511627776) (hbase : base ≤ wr.heap.size)
    (h : ∀ v' w', OwR e f w' base v' (xs ++ ys) → wr.grownBy w' v.ownBlock → (v'.ownBlock = v.ownBlock ∨ v'.ownBlock = some wr.heap.size) → K (a.put o.dst v') w') : o.wp P a wr K Q := by
  obtain ⟨i0, hi0, hz0, hz1, hz2⟩ := info_parts hi
  have hbytes : (xs.length + ys.length) * bytes ≤ 140737488355328 := Nat.le_trans (Nat.mul_le_mul hlen hb) (by omega)
  have fin : ∀ v' w', w'.ownsRow base e 1 v' (xs.length + ys.length) (xs.map f ++ ys.map f) → OwR e f w' base v' (xs ++ ys) := fun v' w' h1 => by
    refine ⟨?_, by rw [List.length_append]; omega⟩
    rw [List.length_append, List.map_append]; exact h1
  rcases A with _ | ad
  · have hn : ys = [] := by
      rcases Nat.eq_zero_or_pos ys.length with h0 | h0
      · exact List.eq_nil_of_length_eq_zero h0
      · obtain ⟨b, o, he, _⟩ := hrd.at_ h0
        cases he
    subst hn
    have hrun := run_appNil (P := P) wr base t o.type e i0 1 ht hi0 v xs.length (xs.map f) hown.1 c
    unfold Oper.wp execOp
    simp only [ho, resolve, invoke, builtin, Sem.run_bind, Sem.run_pure, Result.andThen_ok, List.map_toArray, List.map_cons, List.map_nil, hs, hx, List.length_nil, hrun]
    exact h v wr (by simpa using hown) (World.grownBy.refl _ _) (.inl rfl)
  · have hcells : ∀ j u, (ys.map f)[j]? = some u → wr.cell? (ad.add j) = some u := by
      intro j u hu
      rw [List.getElem?_map] at hu
      rcases Nat.lt_or_ge j ys.length with hj | hj
      · rw [List.getElem?_eq_getElem hj] at hu
        injection hu with hu
        subst hu
        obtain ⟨b, o, he, _, hc⟩ := hrd.at_ (by omega)
        injection he with he
        subst he
        have := hc j hj
        unfold Addr.add
        by_cases h0 : j = 0
        · subst h0; simpa using this
        · rw [if_neg h0]; exact this
      · rw [List.getElem?_eq_none hj] at hu; cases hu
    obtain ⟨v', w', hrun, h2, h3, _, h5⟩ := run_append_own_at (P := P) wr base t o.type e i0 z 1 bytes ht hi0 hz0 hz1 hz2 hzs (by omega) v xs.length (xs.map f) hown.1 ad ys.length c (ys.map f) (by simp) hcells
      (by intro u hu; obtain ⟨y, _, rfl⟩ := List.mem_map.1 hu; exact hX y) (by unfold maxLen; omega) hbytes hbase
    unfold Oper.wp execOp
    simp only [ho, resolve, invoke, builtin, Sem.run_bind, Sem.run_pure, Result.andThen_ok, List.map_toArray, List.map_cons, List.map_nil, hs, hx, hrun]
    exact h v' w' (fin v' w' h2) h3 h5
theorem wpList_appRow {α : Type} {P : Program} {f : α → Value} (wr : World) {ops : Array Oper} {rest : List Oper} {o : Oper} {a : Act} {Q : Exit → Act → World → Prop} (hgd : o.guard = none) (s x : Operand) (t : TypeId)
    (ho : o.op = .call { callee := .builtin .append, args := #[s, x], argTypes := #[t, t] })
    (base : Nat) (e : TypeId) (z : Value) (bytes : Nat) (ht : P.underlying t = some (.slice e)) (hi : (P.info? e).map (fun i => (i.zero, i.size, i.bytes)) = some (some z, 1, bytes)) (hzs : z.cells.size = 1) (hb : bytes ≤ 64)
    (v : Value) (xs ys : List α) (hs : a.eval s = v) (hown : OwR e f wr base v xs) (A : Option Addr) (c : Nat) (hx : a.eval x = .slice A ys.length c) (hrd : RdR f wr (.slice A ys.length c) ys)
    (hX : ∀ y, (f y).oneCell' = true) (hlen : xs.length + ys.length ≤ 1099511627776) (hbase : base ≤ wr.heap.size)
    (h : ∀ v' w', OwR e f w' base v' (xs ++ ys) → wr.grownBy w' v.ownBlock → (v'.ownBlock = v.ownBlock ∨ v'.ownBlock = some wr.heap.size) → wpList P ops Q rest (a.put o.dst v') w') : wpList P ops Q (o :: rest) a wr :=
  wpList_plain hgd fun _ hK => wp_appRow wr s x t ho base e z bytes ht hi hzs hb v xs ys hs hown A c hx hrd hX hlen hbase fun v' w' h1 h2 h3 => hK _ _ (h v' w' h1 h2 h3)
theorem copyInts_any (v : Value) (xs : List Int) (w : World) (hv : RdI w v xs) :
    Calls Try.prog 201 #[v] w (RetI w xs) := by
  have hv0 := hv
  obtain ⟨A, c, rfl, hc, hl, _⟩ := hv
  have own0 := OwI.empty_ w w.heap.size (Nat.le_refl _)
  have B0 : Below w.heap.size w (w.alloc (.cells #[] 3)) := (Below.refl _ _).alloc (Nat.le_refl _) _
  have hrd := hv0.below B0
  have hl0 : ([] : List Int).length + xs.length ≤ 1099511627776 := by simp; omega
  go_enter Try.func201, Try.ntmps201
  go_wp2_with (at_builtin; refine wpList_appRow (f := Value.int .i64) _ rfl _ _ 38 rfl w.heap.size 3 (.int .i64 0) 8 Try.underlying38 info_int rfl (by omega) _ [] xs rfl own0 A c rfl hrd (fun _ => rfl) hl0 B0.size ?_)
  intro v' w1 own1 g1 a1
  have B1 := below_of_own B0 g1 B0.size (fun g hg => (own0.lt g hg).1)
  clear own0 g1 a1 B0 hrd
  go_wp2_with fail
  go_ret
  exact ⟨_, rfl, own1, B1⟩
set_option maxHeartbeats 1000000 in
theorem copyLists_any (v : Value) (xss : List (List Int)) (w : World) (hv : RdSS w v xss) :
    Calls Try.prog 179 #[v] w (RetSS w xss) := by
  have hv0 := hv
  obtain ⟨A, c, rfl, hc, hl, _⟩ := hv
  go_enter Try.func179, Try.ntmps179
  go_wp2_with fail
  have own0 := OwSS.empty_ w w.heap.size (Nat.le_refl _)
  have hB0 : Below w.heap.size w (w.alloc (.cells #[] 38)) := (Below.refl _ _).alloc (Nat.le_refl _) _
  have own0 := own0.size
  generalize w.alloc (.cells #[] 38) = w0 at own0 hB0 ⊢
  go_loopw [3, 9] (fun x i wr => ∃ k : Nat, k ≤ xss.length ∧ i = .int .i64 k ∧ OwSS wr w.heap.size wr.heap.size x (xss.take k) ∧ Below w.heap.size w wr) (fun _ i _ => xss.length - (intOf i).toNat)
  case atStart => exact ⟨0, by omega, rfl, own0, hB0⟩
  case round =>
    clear own0 hB0
    obtain ⟨k, hk, rfl, hown, hB⟩ := hrel
    by_cases hlt : k < xss.length
    · obtain ⟨b, o, rfl, hb, hcl⟩ := hv0.at_ (by omega)
      obtain ⟨u, hcu, hru⟩ := hcl k hlt
      obtain ⟨Au, cu, rfl, _, _⟩ := id hru
      have c0 := (hB.cell (p := ⟨b, o + k, none⟩) hb).trans hcu
      have hru := hru.below hB
      have HT := Lib.hid (take_succ_get xss k hlt)
      have hlen : (xss.take k).length < 1099511627776 := by rw [List.length_take]; omega
      clear hcl hcu
      generalize xss[k] = row at *
      go_wp2_with fail
      refine (copyInts_any _ _ _ hru).mono ?_; rintro e w1 ⟨r, rfl, o1, b1⟩
      have hB1 := below_then hB b1
      have hsz := hB.size
      have hsz1 := hB1.size
      have hut : ∀ g, r.ownBlock = some g → _ ≤ g := fun g hg => (o1.lt g hg).1
      have o1' := o1.mono hsz
      clear hru c0 hB
      obtain ⟨rA, rc, rfl, _⟩ := id o1.rd
      go_wp2_with (at_builtin; refine wpList_appSS _ rfl _ _ rfl _ w.heap.size _ _ (xss.take k) rfl hown b1 _ row o1' hut rfl rfl hlen hsz1 ?_)
      intro v' w2 o2 g2 a2
      have hB2 : Below w.heap.size w w2 := hB1.grown g2 hsz1 (fun g hg => (hown.lt g hg).1)
      clear hown o1 o1' g2 a2 hB1 b1 hut
      go_wp2_with fail
      go_roundw
      case rel => exact ⟨k + 1, by omega, by go_num, by rw [HT.out]; exact o2, hB2⟩
      case measure => simp [intOf]; omega
    · have hke : k = xss.length := by omega
      subst hke
      rw [List.take_length] at hown
      go_wp2_with fail
      go_ret
      exact ⟨_, rfl, hown, hB⟩
end Go.Proofs.Ytnkkgfeegaiakaa
