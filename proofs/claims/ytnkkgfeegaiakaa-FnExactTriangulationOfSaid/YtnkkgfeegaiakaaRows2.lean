/- Rows of cells of any one-cell kind that the call owns: read, written, grown, kept while others are written. No condition. -/
import Derived.Test.YtnkkgfeegaiakaaAppend
namespace Go.Proofs.Ytnkkgfeegaiakaa
open Go.RowKit
/-- a slice value that owns a row, written by f, of cells of type e -/
def OwR {α : Type} (e : TypeId) (f : α → Value) (w : World) (base : Nat) (v : Value) (xs : List α) : Prop := w.ownsRow base e 1 v xs.length (xs.map f) ∧ xs.length ≤ 1099511627776
def RdR {α : Type} (f : α → Value) (w : World) (v : Value) (xs : List α) : Prop :=
  ∃ A c, v = .slice A xs.length c ∧ xs.length ≤ c ∧ xs.length ≤ 1099511627776 ∧ (0 < xs.length → ∃ b o, A = some ⟨b, o, none⟩ ∧ b < w.heap.size ∧ ∀ k (_ : k < xs.length), w.cell? ⟨b, o + k, none⟩ = some (f xs[k]))
def Apart (v u : Value) : Prop := ∀ g, v.ownBlock = some g → u.ownBlock ≠ some g
theorem Apart.symm {v u : Value} (h : Apart v u) : Apart u v := fun g hu hv => h g hv hu
section
variable {α β : Type} {e e' : TypeId} {f : α → Value} {f' : β → Value} {w w' : World} {base base' : Nat} {v v' u : Value} {xs : List α} {ys : List β}
theorem OwR.shape (h : OwR e f w base v xs) : (v = .slice none 0 0 ∧ xs = []) ∨ ∃ g cap, v = .slice (some ⟨g, 0, none⟩) xs.length cap ∧ base ≤ g ∧ g < w.heap.size := by
  rcases h.1.2 with ⟨e, h0⟩ | ⟨g, cap, cur, e, hb, hh, _⟩
  · exact .inl ⟨e, List.eq_nil_of_length_eq_zero h0⟩
  · refine .inr ⟨g, cap, e, hb, ?_⟩
    rcases Nat.lt_or_ge g w.heap.size with hlt | hge
    · exact hlt
    · rw [Array.getElem?_eq_none hge] at hh; cases hh
theorem OwR.lt (h : OwR e f w base v xs) : ∀ k, v.ownBlock = some k → base ≤ k ∧ k < w.heap.size := h.1.lt
theorem OwR.grown {row : Option Nat} (h : OwR e f w base v xs) (hg : w.grownBy w' row) (hne : v.ownBlock = none ∨ v.ownBlock ≠ row) : OwR e f w' base v xs := ⟨h.1.kept hg hne, h.2⟩
theorem OwR.below (h : OwR e f w base v xs) (hb : Below w.heap.size w w') : OwR e f w' base v xs := by
  refine h.grown (grown_of_below hb) ?_
  cases hv : v.ownBlock <;> simp
theorem OwR.drewN (h : OwR e f w base v xs) (q : Nat) : OwR e f (w.drewN q) base v xs := h
theorem OwR.mono (h : OwR e f w base v xs) (hb : base' ≤ base) : OwR e f w base' v xs := by
  obtain ⟨⟨h1, h2⟩, h3⟩ := h
  refine ⟨⟨h1, ?_⟩, h3⟩
  rcases h2 with h2 | ⟨g, cap, cur, e1, e2, e3⟩
  · exact .inl h2
  · exact .inr ⟨g, cap, cur, e1, Nat.le_trans hb e2, e3⟩
theorem OwR.other (h : OwR e f w base v xs) (hg : w.grownBy w' u.ownBlock) (hne : Apart v u) : OwR e f w' base v xs := by
  refine h.grown hg ?_
  rcases hv : v.ownBlock with _ | g
  · exact .inl rfl
  · exact .inr fun e => hne g hv e.symm
/-- rows of two types never share a block -/
theorem OwR.apart_of_type (h : OwR e f w base v xs) (h' : OwR e' f' w base' u ys) (hne : e ≠ e') : Apart v u := by
  intro g hv hu
  rcases h.1.2 with ⟨rfl, _⟩ | ⟨g1, cap, cur, rfl, _, hh, _⟩
  · cases hv
  · rcases h'.1.2 with ⟨rfl, _⟩ | ⟨g2, cap2, cur2, rfl, _, hh2, _⟩
    · cases hu
    · simp only [Value.ownBlock, Option.map_some, Option.some.injEq] at hv hu
      have e1 : g1 = g2 := by rw [hv, hu]
      subst e1
      rw [hh] at hh2
      injection hh2 with hh2
      injection hh2 with _ h3
      exact hne h3
/-- what the growing of v leaves of another row -/
theorem OwR.after_app {n : Nat} (h : OwR e f w base u xs) (ap : Apart v u) (hg : w.grownBy w' v.ownBlock) (hat : AppAt w v v' n) : OwR e f w' base u xs ∧ Apart v' u := by
  refine ⟨h.other hg ap.symm, fun g hv' hu => ?_⟩
  rcases hat.1 with e1 | e1
  · rw [e1] at hv'; exact ap g hv' hu
  · rw [e1] at hv'
    injection hv' with hv'
    have := (h.lt g hu).2
    omega
theorem OwR.len_eq {g n cap : Nat} (h : OwR e f w base (.slice (some ⟨g, 0, none⟩) n cap) xs) : n = xs.length := by
  rcases h.shape with ⟨e, _⟩ | ⟨g', cap', e, _⟩
  · cases e
  · injection e
theorem OwR.cellAt {g n cap : Nat} (h : OwR e f w base (.slice (some ⟨g, 0, none⟩) n cap) xs) (j : Nat) (hj : j < xs.length) : w.cell? ⟨g, j, none⟩ = some (f xs[j]) := by
  have hn := h.len_eq
  subst hn
  rw [h.1.cellAt j (by omega)]
  simp [hj]
theorem OwR.frozenAt {g n cap : Nat} (h : OwR e f w base (.slice (some ⟨g, 0, none⟩) n cap) xs) (j : Nat) : w.frozen? ⟨g, j, none⟩ = false := by
  have hn := h.len_eq
  subst hn
  exact h.1.frozenAt j
theorem OwR.stored {g n cap : Nat} (h : OwR e f w base (.slice (some ⟨g, 0, none⟩) n cap) xs) (j : Nat) (x : α) :
    OwR e f (w.setCell ⟨g, j, none⟩ (f x)) base (.slice (some ⟨g, 0, none⟩) n cap) (xs.set j x) ∧ w.grownBy (w.setCell ⟨g, j, none⟩ (f x)) (some g) := by
  have hn := h.len_eq
  subst hn
  obtain ⟨h1, h2⟩ := h.1.stored j (f x)
  refine ⟨⟨?_, by simpa using h.2⟩, h2⟩
  rw [List.length_set, List.map_set]
  exact h1
theorem OwR.rd (h : OwR e f w base v xs) : RdR f w v xs := by
  have h0 := h
  rcases h.shape with ⟨rfl, rfl⟩ | ⟨g, cap, rfl, hb, hlt⟩
  · exact ⟨none, 0, rfl, Nat.le_refl _, by simp, fun h => by simp at h⟩
  · refine ⟨_, cap, rfl, ?_, h.2, fun _ => ⟨g, 0, rfl, hlt, fun k hk => ?_⟩⟩
    · rcases h.1.2 with ⟨e, _⟩ | ⟨g', cap', cur, e, _, _, hn, _⟩
      · cases e
      · injection e with _ _ e3; subst e3; exact hn
    · rw [Nat.zero_add]; exact h0.cellAt k hk
theorem RdR.below (h : RdR f w v xs) (hb : Below w.heap.size w w') : RdR f w' v xs := by
  obtain ⟨A, c, rfl, h1, h2, h3⟩ := h
  refine ⟨A, c, rfl, h1, h2, fun h0 => ?_⟩
  obtain ⟨b, o, rfl, hlt, hc⟩ := h3 h0
  exact ⟨b, o, rfl, Nat.lt_of_lt_of_le hlt hb.size, fun k hk => (World.cell?_of_block (a := ⟨b, o + k, none⟩) (hb.block b hlt)).trans (hc k hk)⟩
theorem RdR.at_ {A : Option Addr} {n c : Nat} (h : RdR f w (.slice A n c) xs) : 0 < xs.length → ∃ b o, A = some ⟨b, o, none⟩ ∧ b < w.heap.size ∧ ∀ k (_ : k < xs.length), w.cell? ⟨b, o + k, none⟩ = some (f xs[k]) := by
  obtain ⟨A', c', e, h1, h2, h3⟩ := h
  injection e with e1 e2 e3
  subst e1
  exact h3
theorem OwR.lit (w : World) (xs : List α) (base : Nat) (hb : base ≤ w.heap.size) (hl : xs.length ≤ 1099511627776) : OwR e f (w.alloc (.cells (xs.map f).toArray e)) base (.slice (some ⟨w.heap.size, 0, none⟩) xs.length xs.length) xs := by
  refine ⟨?_, hl⟩
  have := World.ownsRow_lit (base := base) (e := e) (size := 1) w (xs.map f).toArray xs.length hb (by unfold maxLen; omega) (by simp)
  simpa using this
end
theorem OwI_is {w : World} {base : Nat} {v : Value} {xs : List Int} : OwI w base v xs ↔ OwR 3 (Value.int .i64) w base v xs := Iff.rfl
theorem RdI_is {w : World} {v : Value} {xs : List Int} : RdI w v xs ↔ RdR (Value.int .i64) w v xs := Iff.rfl
/-- 'append' of one cell -/
theorem wpList_appR {α : Type} {P : Program} {f : α → Value} (wr : World) {ops : Array Oper} {rest : List Oper} {o : Oper} {a : Act} {Q : Exit → Act → World → Prop} (hgd : o.guard = none) (s x : Operand) (t : TypeId)
    (ho : o.op = .call { callee := .builtin .append, args := #[s, x], argTypes := #[t, t] })
    (base : Nat) (e : TypeId) (z : Value) (bytes : Nat) (ht : P.underlying t = some (.slice e)) (hi : (P.info? e).map (fun i => (i.zero, i.size, i.bytes)) = some (some z, 1, bytes)) (hzs : z.cells.size = 1) (hb : bytes ≤ 64)
    (v : Value) (xs : List α) (hs : a.eval s = v) (hown : OwR e f wr base v xs) (X : α) (hX : (f X).oneCell' = true)
    {m : Nat} (hx : a.eval x = .slice (some ⟨m, 0, none⟩) 1 1) (hm : m = wr.heap.size) (hlen : xs.length < 1099511627776) (hbase : base ≤ wr.heap.size)
    (h : ∀ v' w', OwR e f w' base v' (xs ++ [X]) → wr.grownBy w' v.ownBlock → AppAt wr v v' (xs.length + 1) → wpList P ops Q rest (a.put o.dst v') w') : wpList P ops Q (o :: rest) a (wr.alloc (.cells #[f X] e)) := by
  obtain ⟨i0, hi0, hz0, hz1, hz2⟩ := info_parts hi
  refine wpList_app1 wr hgd s x t ho base e i0 z bytes ht hi0 hz0 hz1 hz2 hzs v (xs.map f) hs (by simpa using hown.1) (f X) hX hx hm (by simp; omega) hb hbase ?_
  intro v' w' h1 h2 h3
  exact h v' w' ⟨by simpa using h1, by simp; omega⟩ h2 (by simpa using h3)
/-- 'make([]T, n)' -/
theorem wpList_makeR {α : Type} {P : Program} {f : α → Value} (w : World) {ops : Array Oper} {rest : List Oper} {o : Oper} {a : Act} {Q : Exit → Act → World → Prop}
    (hg : o.guard = none) (l c : Operand) (t : TypeId) (hop : o.op = Op.makeSlice t l c) (e : TypeId) (z : α) (bytes : Nat) (ht : P.underlying t = some (.slice e)) (hi : (P.info? e).map (fun i => (i.zero, i.size, i.bytes)) = some (some (f z), 1, bytes)) (hzs : (f z).cells = #[f z]) (hb : bytes ≤ 64)
    (kl kc : IntKind) (N C : Int) (n : Nat) (hl : a.eval l = .int kl N) (hc : a.eval c = .int kc C) (hL : N = (n : Int)) (hC : C = (n : Int)) (hn : n ≤ 1099511627776)
    (hK : ∀ w', OwR e f w' w.heap.size (.slice (some ⟨w.heap.size, 0, none⟩) n n) (List.replicate n z) → Below w.heap.size w w' → wpList P ops Q rest (a.put o.dst (.slice (some ⟨w.heap.size, 0, none⟩) n n)) w') :
    wpList P ops Q (o :: rest) a w := by
  obtain ⟨i0, hi0, hz0, hz1, hz2⟩ := info_parts hi
  have hbn : i0.bytes * n ≤ 281474976710656 := by rw [hz2]; exact Nat.le_trans (Nat.mul_le_mul hb hn) (by omega)
  refine wpList_make_full w hg l c t hop w.heap.size e i0 (f z) 1 ht hi0 hz0 hz1 kl kc N C n hl hc hL hC hbn (by unfold maxLen; omega) (Nat.le_refl _) ?_
  intro w' hown hgrow
  rw [show (madeCells (f z).cells (n * 1)).toList = List.replicate n (f z) from by rw [Nat.mul_one, hzs]; exact toList_madeCells_one _ _] at hown
  exact hK w' ⟨by simpa using hown, by simpa using hn⟩ ((Below.refl _ _).grown hgrow (Nat.le_refl _) (by simp))
end Go.Proofs.Ytnkkgfeegaiakaa
