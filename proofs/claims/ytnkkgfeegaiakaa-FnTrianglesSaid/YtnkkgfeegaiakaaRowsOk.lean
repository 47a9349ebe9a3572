/- Rows that the call owns, apart from each other, and the slice that holds them: rows may go over into another slice. No condition. -/
import Derived.Test.YtnkkgfeegaiakaaGround
import Derived.Test.YtnkkgfeegaiakaaAppN
import Derived.OneCell
namespace Go.Proofs.Ytnkkgfeegaiakaa
open Go.RowKit
def RowsOk (w : World) (base : Nat) (Ps : List (Value × List Int)) : Prop := (∀ q ∈ Ps, OwI w base q.1 q.2) ∧ Ps.Pairwise (fun a b => Apart a.1 b.1)
/-- the slice that holds the rows -/
def Spine (w : World) (base : Nat) (v : Value) (Ps : List (Value × List Int)) : Prop := OwR 38 (id : Value → Value) w base v (Ps.map (·.1))
section
variable {w w' : World} {base base' : Nat} {v u : Value} {Ps Qs : List (Value × List Int)}
theorem RowsOk.nil_ (w : World) (base : Nat) : RowsOk w base [] := ⟨by simp, by simp⟩
theorem RowsOk.one_ {q : Value × List Int} (h : OwI w base q.1 q.2) : RowsOk w base [q] := ⟨by simpa using h, by simp⟩
theorem RowsOk.below (h : RowsOk w base Ps) (hb : Below w.heap.size w w') : RowsOk w' base Ps := ⟨fun q hq => (h.1 q hq).below hb, h.2⟩
theorem RowsOk.mono (h : RowsOk w base Ps) (hb : base' ≤ base) : RowsOk w base' Ps := ⟨fun q hq => (h.1 q hq).mono hb, h.2⟩
theorem RowsOk.spine {Rs : List (Value × List Int)} {b : Nat} (h : RowsOk w base Ps) (hs : Spine w b v Rs) (hg : w.grownBy w' v.ownBlock) : RowsOk w' base Ps :=
  ⟨fun q hq => OwR.other (u := v) (h.1 q hq) hg (OwR.apart_of_type (e := 3) (e' := 38) (h.1 q hq) hs (by decide)), h.2⟩
theorem RowsOk.append_ (h : RowsOk w base Ps) (k : RowsOk w base Qs) (hap : ∀ a ∈ Ps, ∀ b ∈ Qs, Apart a.1 b.1) : RowsOk w base (Ps ++ Qs) :=
  ⟨fun q hq => by rcases List.mem_append.1 hq with hq | hq; exact h.1 q hq; exact k.1 q hq, List.pairwise_append.2 ⟨h.2, k.2, hap⟩⟩
theorem RowsOk.sub (h : RowsOk w base Ps) (hs : List.Sublist Qs Ps) : RowsOk w base Qs := ⟨fun q hq => h.1 q (hs.subset hq), h.2.sublist hs⟩
theorem RowsOk.box {bo : Nat} (h : RowsOk w base Ps) (hne : ∀ q ∈ Ps, q.1.ownBlock ≠ some bo) (u : Value) : RowsOk (w.setCell ⟨bo, 0, none⟩ u) base Ps :=
  ⟨fun q hq => ⟨ownsRow_setCell_other (h.1 q hq).1 (hne q hq) u, (h.1 q hq).2⟩, h.2⟩
theorem Spine.below (h : Spine w base v Ps) (hb : Below w.heap.size w w') : Spine w' base v Ps := OwR.below h hb
theorem Spine.mono (h : Spine w base v Ps) (hb : base' ≤ base) : Spine w base' v Ps := OwR.mono h hb
theorem Spine.lt (h : Spine w base v Ps) : ∀ g, v.ownBlock = some g → base ≤ g ∧ g < w.heap.size := OwR.lt h
theorem Spine.len (h : Spine w base v Ps) : Ps.length ≤ 1099511627776 := by have := h.2; simpa using this
theorem Spine.shape (h : Spine w base v Ps) : ∃ A c, v = .slice A Ps.length c := by
  obtain ⟨A, c, e, _⟩ := OwR.rd h
  exact ⟨A, c, by simpa using e⟩
theorem Spine.ss (hs : Spine w base v Ps) (h : RowsOk w base Ps) : OwSS w base w.heap.size v (Ps.map (·.2)) := by
  have hg : ∀ i (hi : i < Ps.length), Ps.getD i (.slice none 0 0, []) = Ps[i] := fun i hi => getD_of hi _
  refine OwSS.size (top := w.heap.size) ⟨fun i => (Ps.getD i (.slice none 0 0, [])).1, ?_, fun i hi => ?_, fun i j hij hj => ?_, fun g hg' => (OwR.lt hs g hg').2, fun i hi g hg' => ?_⟩
  · have e : (List.range (Ps.map (·.2)).length).map (fun i => (Ps.getD i (.slice none 0 0, [])).1) = Ps.map (·.1) := by
      apply List.ext_getElem
      · simp
      · intro i h1 h2
        have hi : i < Ps.length := by simpa using h2
        simp only [List.getElem_map, List.getElem_range]
        rw [hg i hi]
    rw [e]; exact hs
  · have hi' : i < Ps.length := by simpa using hi
    have := h.1 Ps[i] (List.getElem_mem hi')
    show OwI w base (Ps.getD i (.slice none 0 0, [])).1 (rowOf (Ps.map (·.2)) i)
    rw [hg i hi', rowOf_get hi, List.getElem_map]; exact this
  · have hj' : j < Ps.length := by simpa using hj
    have := List.pairwise_iff_getElem.1 h.2 i j (by omega) hj' hij
    show Apart (Ps.getD i (.slice none 0 0, [])).1 (Ps.getD j (.slice none 0 0, [])).1
    rw [hg i (by omega), hg j hj']; exact this
  · have hi' : i < Ps.length := by simpa using hi
    have hg'' : (Ps.getD i (.slice none 0 0, [])).1.ownBlock = some g := hg'
    rw [hg i hi'] at hg''
    exact ((h.1 Ps[i] (List.getElem_mem hi')).lt g hg'').2
theorem Spine.empty_ (w : World) (base : Nat) (hb : base ≤ w.heap.size) : Spine (w.alloc (.cells #[] 38)) base (.slice (some ⟨w.heap.size, 0, none⟩) 0 0) [] :=
  OwR.lit (e := 38) (f := (id : Value → Value)) w [] base hb (by simp)
theorem Spine.one_ (w : World) (base : Nat) (hb : base ≤ w.heap.size) (q : Value × List Int) : Spine (w.alloc (.cells #[q.1] 38)) base (.slice (some ⟨w.heap.size, 0, none⟩) 1 1) [q] :=
  OwR.lit (e := 38) (f := (id : Value → Value)) w [q.1] base hb (by simp)
end
theorem OwI.oneCell {w : World} {base : Nat} {u : Value} {ys : List Int} (h : OwI w base u ys) : u.oneCell' = true := by
  rcases h.shape with ⟨rfl, _⟩ | ⟨g, cap, rfl, _⟩ <;> rfl
/-- one row more in the slice -/
theorem wpList_appSp (wr : World) {ops : Array Oper} {rest : List Oper} {o : Oper} {a : Act} {Q : Exit → Act → World → Prop} (hgd : o.guard = none) (s x : Operand)
    (ho : o.op = .call { callee := .builtin .append, args := #[s, x], argTypes := #[22, 22] })
    (base : Nat) (v : Value) (Ps : List (Value × List Int)) (hs : a.eval s = v) (hown : Spine wr base v Ps) (q : Value × List Int) (hq : q.1.oneCell' = true)
    {m : Nat} (hx : a.eval x = .slice (some ⟨m, 0, none⟩) 1 1) (hm : m = wr.heap.size) (hlen : Ps.length < 1099511627776) (hbase : base ≤ wr.heap.size)
    (h : ∀ v' w', Spine w' base v' (Ps ++ [q]) → wr.grownBy w' v.ownBlock → AppAt wr v v' (Ps.length + 1) → wpList Try.prog ops Q rest (a.put o.dst v') w') : wpList Try.prog ops Q (o :: rest) a (wr.alloc (.cells #[q.1] 38)) := by
  refine wpList_appR (f := (id : Value → Value)) wr hgd s x 22 ho base 38 (.slice none 0 0) 24 Try.underlying22 info_slice rfl (by omega) v (Ps.map (fun (q : Value × List Int) => q.1)) hs hown q.1 hq hx hm (by simpa using hlen) hbase ?_
  intro v' w' h1 h2 h3
  refine h v' w' (by unfold Spine; rw [List.map_append]; exact h1) h2 (by simpa using h3)
theorem OwR.sub_ {e : TypeId} {w : World} {base : Nat} {v : Value} {p : Value → Prop} {Ws : List {x : Value // p x}} {l : List Value} (h : Ws.map Subtype.val = l) :
    OwR e (id : Value → Value) w base v l ↔ OwR e (Subtype.val : {x : Value // p x} → Value) w base v Ws := by
  subst h; unfold OwR; simp
/-- all rows of another slice more in the slice -/
theorem wpList_appSps (wr : World) {ops : Array Oper} {rest : List Oper} {o : Oper} {a : Act} {Q : Exit → Act → World → Prop} (hgd : o.guard = none) (s x : Operand)
    (ho : o.op = .call { callee := .builtin .append, args := #[s, x], argTypes := #[22, 22] })
    (base base2 base3 : Nat) (v : Value) (Ps Qs : List (Value × List Int)) (hs : a.eval s = v) (hown : Spine wr base v Ps) (hrow1 : RowsOk wr base3 Ps) (A : Option Addr) (c : Nat) (hx : a.eval x = .slice A Qs.length c) (hrd : Spine wr base2 (.slice A Qs.length c) Qs) (hrow : RowsOk wr base2 Qs)
    (hlen : Ps.length + Qs.length ≤ 1099511627776) (hbase : base ≤ wr.heap.size)
    (h : ∀ v' w', Spine w' base v' (Ps ++ Qs) → wr.grownBy w' v.ownBlock → (v'.ownBlock = v.ownBlock ∨ v'.ownBlock = some wr.heap.size) → wpList Try.prog ops Q rest (a.put o.dst v') w') : wpList Try.prog ops Q (o :: rest) a wr := by
  have sub : ∀ l : List Value, (∀ x ∈ l, x.oneCell' = true) → ∃ Ws : List {x : Value // x.oneCell' = true}, Ws.map Subtype.val = l := fun l hl => ⟨l.attachWith _ hl, by simp⟩
  obtain ⟨Us, hU⟩ := sub (Ps.map (·.1)) (fun x hx => by obtain ⟨q, hq, rfl⟩ := List.mem_map.1 hx; exact (hrow1.1 q hq).oneCell)
  obtain ⟨Ws, hW⟩ := sub (Qs.map (·.1)) (fun x hx => by obtain ⟨q, hq, rfl⟩ := List.mem_map.1 hx; exact (hrow.1 q hq).oneCell)
  have lU : Us.length = Ps.length := by have := congrArg List.length hU; simpa using this
  have lW : Ws.length = Qs.length := by have := congrArg List.length hW; simpa using this
  have o1 := (OwR.sub_ hU).1 hown
  have o2 := (OwR.sub_ hW).1 hrd
  refine wpList_appRow (f := (Subtype.val : {x : Value // x.oneCell' = true} → Value)) wr hgd s x 22 ho base 38 (.slice none 0 0) 24 Try.underlying22 info_slice rfl (by omega) v Us Ws hs o1 A c (by rw [lW]; exact hx) (by rw [lW]; exact o2.rd) (fun y => y.2) (by omega) hbase ?_
  intro v' w' h1 h2 h3
  refine h v' w' ?_ h2 h3
  unfold Spine
  rw [List.map_append]
  exact (OwR.sub_ (by rw [List.map_append, hU, hW])).2 h1
end Go.Proofs.Ytnkkgfeegaiakaa
