/- Appending one cell to a row that the call owns: what is owned behind it, and that no other old block has turned. No condition. -/
import Derived.Test.YtnkkgfeegaiakaaBase
import Derived.Maps.AppendAt
namespace Go.Proofs.Ytnkkgfeegaiakaa
open Go.RowKit
theorem grown_trans_row {a b c : World} {row : Option Nat} (h : a.grownBy b row) (k : b.grownBy c row) : a.grownBy c row :=
  ⟨k.os.trans h.os, k.tape.trans h.tape, k.output.trans h.output, Nat.le_trans h.size k.size, fun i hi hne => (k.block i (Nat.lt_of_lt_of_le hi h.size) hne).trans (h.block i hi hne)⟩
theorem grown_alloc (w : World) (o : Obj) (row : Option Nat) : w.grownBy (w.alloc o) row := World.grownBy_alloc w o row
theorem grown_draws (w : World) (q : Nat) (row : Option Nat) : w.grownBy (w.drewN q) row := ⟨rfl, rfl, rfl, Nat.le_refl _, fun _ _ _ => rfl⟩
theorem below_of_own {B : Nat} {w0 w w' : World} {row : Option Nat} (h : Below B w0 w) (hg : w.grownBy w' row) (hB : B ≤ w.heap.size) (hr : ∀ g, row = some g → B ≤ g) : Below B w0 w' := h.grown hg hB hr

/-- where the grown row lies: where it lay, or in a new block; and that it is not nil -/
def AppAt (w : World) (v v' : Value) (n : Nat) : Prop := (v'.ownBlock = v.ownBlock ∨ v'.ownBlock = some (w.heap.size + 1)) ∧ ∃ g cap, v' = .slice (some ⟨g, 0, none⟩) n cap
theorem wp_app1 {P : Program} (wr : World) {o : Oper} {a : Act} {K : Act → World → Prop} {Q : Exit → Act → World → Prop} (s x : Operand) (t : TypeId)
    (ho : o.op = .call { callee := .builtin .append, args := #[s, x], argTypes := #[t, t] })
    (base : Nat) (e : TypeId) (i : TypeInfo) (z : Value) (bytes : Nat) (ht : P.underlying t = some (.slice e)) (hi : P.info? e = some i) (hz : i.zero = some z)
    (hsize : i.size = 1) (hby : i.bytes = bytes) (hzs : z.cells.size = 1)
    (v : Value) (xs : List Value) (hs : a.eval s = v) (hown : wr.ownsRow base e 1 v xs.length xs) (X : Value) (hX : X.oneCell' = true)
    {m : Nat} (hx : a.eval x = .slice (some ⟨m, 0, none⟩) 1 1) (hm : m = wr.heap.size) (hlen : xs.length ≤ 1099511627776) (hb : bytes ≤ 64) (hbase : base ≤ wr.heap.size)
    (h : ∀ v' w', w'.ownsRow base e 1 v' (xs ++ [X]).length (xs ++ [X]) → wr.grownBy w' v.ownBlock → AppAt wr v v' (xs.length + 1) → K (a.put o.dst v') w') : o.wp P a (wr.alloc (.cells #[X] e)) K Q := by
  subst hm
  have hown' := hown.alloc (.cells #[X] e)
  have hbytes : (xs.length + 1) * bytes ≤ 140737488355328 := Nat.le_trans (Nat.mul_le_mul_left _ hb) (by omega)
  have hcell : ∀ j u, [X][j]? = some u → (wr.alloc (.cells #[X] e)).cell? ((⟨wr.heap.size, 0, none⟩ : Addr).add j) = some u := by
    intro j u hu
    match j, hu with
    | 0, hu =>
      simp at hu; subst hu
      show (wr.alloc (.cells #[X] e)).cell? ⟨wr.heap.size, 0, none⟩ = some X
      have hh := heap_alloc_new wr (.cells #[X] e)
      unfold World.cell?
      rw [hh]
      rfl
    | j + 1, hu => simp at hu
  obtain ⟨v', w', hrun, h2, h3, h4, h5⟩ := run_append_own_at (P := P) (wr.alloc (.cells #[X] e)) base t o.type e i z 1 bytes ht hi hz hsize hby hzs (by omega) v xs.length xs hown' ⟨wr.heap.size, 0, none⟩ 1 1 [X] rfl hcell
    (by intro u hu; simp at hu; subst hu; exact hX) (by unfold maxLen; omega) hbytes (by simp; omega)
  unfold Oper.wp execOp
  simp only [ho, resolve, invoke, builtin, Sem.run_bind, Sem.run_pure, Result.andThen_ok, List.map_toArray, List.map_cons, List.map_nil, hs, hx, hrun]
  refine h v' w' (by simpa using h2) (grown_trans_row (grown_alloc _ _ _) h3) ⟨by simpa using h5, ?_⟩
  rcases h2.2 with ⟨_, h0⟩ | ⟨g, cap, cur, e1, _⟩
  · omega
  · exact ⟨g, cap, e1⟩

theorem wpList_app1 {P : Program} (wr : World) {ops : Array Oper} {rest : List Oper} {o : Oper} {a : Act} {Q : Exit → Act → World → Prop} (hgd : o.guard = none) (s x : Operand) (t : TypeId)
    (ho : o.op = .call { callee := .builtin .append, args := #[s, x], argTypes := #[t, t] })
    (base : Nat) (e : TypeId) (i : TypeInfo) (z : Value) (bytes : Nat) (ht : P.underlying t = some (.slice e)) (hi : P.info? e = some i) (hz : i.zero = some z)
    (hsize : i.size = 1) (hby : i.bytes = bytes) (hzs : z.cells.size = 1)
    (v : Value) (xs : List Value) (hs : a.eval s = v) (hown : wr.ownsRow base e 1 v xs.length xs) (X : Value) (hX : X.oneCell' = true)
    {m : Nat} (hx : a.eval x = .slice (some ⟨m, 0, none⟩) 1 1) (hm : m = wr.heap.size) (hlen : xs.length ≤ 1099511627776) (hb : bytes ≤ 64) (hbase : base ≤ wr.heap.size)
    (h : ∀ v' w', w'.ownsRow base e 1 v' (xs ++ [X]).length (xs ++ [X]) → wr.grownBy w' v.ownBlock → AppAt wr v v' (xs.length + 1) → wpList P ops Q rest (a.put o.dst v') w') : wpList P ops Q (o :: rest) a (wr.alloc (.cells #[X] e)) :=
  wpList_plain hgd fun _ hK => wp_app1 wr s x t ho base e i z bytes ht hi hz hsize hby hzs v xs hs hown X hX hx hm hlen hb hbase fun v' w' h2 h3 h4 => hK _ _ (h v' w' h2 h3 h4)
/-- the same for a slice of numbers -/
theorem wpList_appI (wr : World) {ops : Array Oper} {rest : List Oper} {o : Oper} {a : Act} {Q : Exit → Act → World → Prop} (hgd : o.guard = none) (s x : Operand)
    (ho : o.op = .call { callee := .builtin .append, args := #[s, x], argTypes := #[38, 38] })
    (base : Nat) (v : Value) (xs : List Int) (hs : a.eval s = v) (hown : OwI wr base v xs) (X : Int)
    {m : Nat} (hx : a.eval x = .slice (some ⟨m, 0, none⟩) 1 1) (hm : m = wr.heap.size) (hlen : xs.length < 1099511627776) (hbase : base ≤ wr.heap.size)
    (h : ∀ v' w', OwI w' base v' (xs ++ [X]) → wr.grownBy w' v.ownBlock → AppAt wr v v' (xs.length + 1) → wpList Try.prog ops Q rest (a.put o.dst v') w') : wpList Try.prog ops Q (o :: rest) a (wr.alloc (.cells #[.int .i64 X] 3)) := by
  obtain ⟨i0, hi, hz0, hz1, hz2⟩ := info_parts info_int
  refine wpList_app1 wr hgd s x 38 ho base 3 i0 (.int .i64 0) 8 Try.underlying38 hi hz0 hz1 hz2 rfl v (xs.map (Value.int .i64)) hs (by simpa using hown.1) (.int .i64 X) rfl hx hm (by simp; omega) (by omega) hbase ?_
  intro v' w' h1 h2 h3
  exact h v' w' ⟨by simpa using h1, by simp; omega⟩ h2 (by simpa using h3)
/-- a slice literal of one number -/
theorem OwI.one (w : World) (x : Int) (base : Nat) (hb : base ≤ w.heap.size) : OwI (w.alloc (.cells #[.int .i64 x] 3)) base (.slice (some ⟨w.heap.size, 0, none⟩) 1 1) [x] := by
  refine ⟨?_, by simp⟩
  have := World.ownsRow_lit (base := base) (e := 3) (size := 1) w #[.int .i64 x] 1 hb (by simp [maxLen]) (by simp)
  simpa using this
theorem OwI.empty_ (w : World) (base : Nat) (hb : base ≤ w.heap.size) : OwI (w.alloc (.cells #[] 3)) base (.slice (some ⟨w.heap.size, 0, none⟩) 0 0) [] := by
  refine ⟨?_, by simp⟩
  have := World.ownsRow_lit (base := base) (e := 3) (size := 1) w #[] 0 hb (by simp [maxLen]) (by simp)
  simpa using this
theorem OwI.cellAt {w : World} {base g cap n : Nat} {xs : List Int} (h : OwI w base (.slice (some ⟨g, 0, none⟩) n cap) xs) (j : Nat) (hj : j < xs.length) : w.cell? ⟨g, j, none⟩ = some (.int .i64 xs[j]) := by
  have hn : n = xs.length := by
    rcases h.shape with ⟨e, _⟩ | ⟨g', cap', e, _⟩
    · cases e
    · injection e
  subst hn
  rw [h.1.cellAt j (by omega)]
  simp [hj]
theorem OwI.len_eq {w : World} {base g cap n : Nat} {xs : List Int} (h : OwI w base (.slice (some ⟨g, 0, none⟩) n cap) xs) : n = xs.length := by
  rcases h.shape with ⟨e, _⟩ | ⟨g', cap', e, _⟩
  · cases e
  · injection e
theorem OwI.frozenAt {w : World} {base g cap n : Nat} {xs : List Int} (h : OwI w base (.slice (some ⟨g, 0, none⟩) n cap) xs) (j : Nat) : w.frozen? ⟨g, j, none⟩ = false := by
  have hn := h.len_eq
  subst hn
  exact h.1.frozenAt j
theorem OwI.stored {w : World} {base g cap n : Nat} {xs : List Int} (h : OwI w base (.slice (some ⟨g, 0, none⟩) n cap) xs) (j : Nat) (x : Int) :
    OwI (w.setCell ⟨g, j, none⟩ (.int .i64 x)) base (.slice (some ⟨g, 0, none⟩) n cap) (xs.set j x) ∧ w.grownBy (w.setCell ⟨g, j, none⟩ (.int .i64 x)) (some g) := by
  have hn := h.len_eq
  subst hn
  obtain ⟨h1, h2⟩ := h.1.stored j (.int .i64 x)
  refine ⟨⟨?_, by simpa using h.2⟩, h2⟩
  rw [List.length_set, List.map_set]
  exact h1
/-- 'make([]int, n)' -/
theorem wpList_makeI (w : World) {ops : Array Oper} {rest : List Oper} {o : Oper} {a : Act} {Q : Exit → Act → World → Prop}
    (hg : o.guard = none) (l c : Operand) (hop : o.op = Op.makeSlice 38 l c) (kl kc : IntKind) (N C : Int) (n : Nat) (hl : a.eval l = .int kl N) (hc : a.eval c = .int kc C) (hL : N = (n : Int)) (hC : C = (n : Int)) (hn : n ≤ 1099511627776)
    (hK : ∀ w', OwI w' w.heap.size (.slice (some ⟨w.heap.size, 0, none⟩) n n) (List.replicate n 0) → Below w.heap.size w w' → wpList Try.prog ops Q rest (a.put o.dst (.slice (some ⟨w.heap.size, 0, none⟩) n n)) w') :
    wpList Try.prog ops Q (o :: rest) a w := by
  obtain ⟨i0, hi, hz0, hz1, hz2⟩ := info_parts info_int
  refine wpList_make_full w hg l c 38 hop w.heap.size 3 i0 (.int .i64 0) 1 Try.underlying38 hi hz0 hz1 kl kc N C n hl hc hL hC (by rw [hz2]; omega) (by unfold maxLen; omega) (Nat.le_refl _) ?_
  intro w' hown hgrow
  rw [show (madeCells (Value.int .i64 0).cells (n * 1)).toList = List.replicate n (.int .i64 0) from by rw [Nat.mul_one]; exact toList_madeCells_one _ _] at hown
  exact hK w' ⟨by simpa using hown, by simpa using hn⟩ ((Below.refl _ _).grown hgrow (Nat.le_refl _) (by simp))
/-- what a call leaves that returns a slice of numbers of its own; with a bool beside it -/
def RetI (w : World) (R : List Int) (e : Ending) (w' : World) : Prop := ∃ r, e = .returned r ∧ OwI w' w.heap.size r R ∧ Below w.heap.size w w'
def RetIB (w : World) (R : List Int × Bool) (e : Ending) (w' : World) : Prop := ∃ r, e = .returned (.tuple #[r, .bool R.2]) ∧ OwI w' w.heap.size r R.1 ∧ Below w.heap.size w w'
theorem RetIB.mk {w w' : World} {R : List Int × Bool} {l : List Int} {b : Bool} {r : Value} (h : R = (l, b)) (hr : OwI w' w.heap.size r l) (hb : Below w.heap.size w w') : RetIB w R (.returned (.tuple #[r, .bool b])) w' := by
  subst h; exact ⟨r, rfl, hr, hb⟩
theorem RetI.mk {w w' : World} {R l : List Int} {r : Value} (h : R = l) (hr : OwI w' w.heap.size r l) (hb : Below w.heap.size w w') : RetI w R (.returned r) w' := by
  subst h; exact ⟨r, rfl, hr, hb⟩
/-- an owned slice stays while another row, or a new block, is written -/
theorem OwI.other {w w' : World} {base : Nat} {v : Value} {xs : List Int} {u : Value} (h : OwI w base v xs) (hg : w.grownBy w' u.ownBlock) (hne : ∀ g, v.ownBlock = some g → u.ownBlock ≠ some g) : OwI w' base v xs := by
  refine h.grown hg ?_
  rcases hv : v.ownBlock with _ | g
  · exact .inl rfl
  · exact .inr fun e => hne g hv e.symm
end Go.Proofs.Ytnkkgfeegaiakaa
