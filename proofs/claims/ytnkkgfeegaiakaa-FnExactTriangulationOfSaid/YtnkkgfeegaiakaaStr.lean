/- Texts built letter by letter, and slices of bytes turned into texts. No condition. -/
import Derived.Test.YtnkkgfeegaiakaaRows2
import Derived.Test.YtnkkgfeegaiakaaPlain3
namespace Go.Proofs.Ytnkkgfeegaiakaa
open Go.RowKit
/-- the text of a list of bytes -/
def S (l : List UInt8) : ByteArray := ⟨l.toArray⟩
theorem S_size (l : List UInt8) : (S l).size = l.length := by simp [S, ByteArray.size]
theorem S_nil : S [] = ⟨#[]⟩ := rfl
theorem S_snoc (l : List UInt8) (c : UInt8) : S l ++ ⟨#[c]⟩ = S (l ++ [c]) := by
  unfold S
  rw [ByteArray.mk_append_mk]
  try simp
theorem L_S (l : List UInt8) : L (S l) = l := by simp [L, S]
theorem S_L (s : ByteArray) : S (L s) = s := by simp [L, S]
/-- a byte as a cell -/
def bf (c : UInt8) : Value := .int .u8 (c.toNat : Int)
/-- what a call leaves that returns a text and a bool -/
def RetSB (w : World) (R : List UInt8 × Bool) (e : Ending) (w' : World) : Prop := e = .returned (.tuple #[.string (S R.1), .bool R.2]) ∧ Below w.heap.size w w'
theorem RetSB.mk {w w' : World} {R : List UInt8 × Bool} {l : List UInt8} {b : Bool} {s : ByteArray} (h : R = (l, b)) (hs : s = S l) (hb : Below w.heap.size w w') : RetSB w R (.returned (.tuple #[.string s, .bool b])) w' := by
  subst h; subst hs; exact ⟨rfl, hb⟩
theorem info_byte : (Try.prog.info? 5).map (fun i => (i.zero, i.size, i.bytes)) = some (some (Value.int .u8 0), 1, 1) := by kernel_rfl
theorem conv_row {w : World} {base : Nat} {v : Value} {l : List UInt8} (h : OwR 5 bf w base v l) : (convert 31 9 v).run Try.prog w = .ok (.string (S l)) w := by
  have h0 := h
  rcases h.shape with ⟨rfl, rfl⟩ | ⟨g, cap, rfl, _, _⟩
  · exact run_convert_bytes_nil (P := Try.prog) w 31 5 Try.underlying31 Try.underlying5 0 0 9 Try.underlying9
  · refine run_convert_bytes_back (P := Try.prog) w 31 9 5 ⟨g, 0, none⟩ cap l Try.underlying31 Try.underlying5 Try.underlying9 ?_
    intro j hj
    have := h0.cellAt j hj
    show w.cell? ((⟨g, 0, none⟩ : Addr).add j) = _
    have e : (⟨g, 0, none⟩ : Addr).add j = ⟨g, j, none⟩ := by
      unfold Addr.add
      by_cases hz : j = 0
      · subst hz; rfl
      · rw [if_neg hz, Nat.zero_add]
    rw [e]; exact this
/-- 'append' of one byte -/
theorem wpList_appB (wr : World) {ops : Array Oper} {rest : List Oper} {o : Oper} {a : Act} {Q : Exit → Act → World → Prop} (hgd : o.guard = none) (s x : Operand)
    (ho : o.op = .call { callee := .builtin .append, args := #[s, x], argTypes := #[31, 31] })
    (base : Nat) (v : Value) (xs : List UInt8) (hs : a.eval s = v) (hown : OwR 5 bf wr base v xs) (X : UInt8) (n : Int) (hX : (X.toNat : Int) = n)
    {m : Nat} (hx : a.eval x = .slice (some ⟨m, 0, none⟩) 1 1) (hm : m = wr.heap.size) (hlen : xs.length < 1099511627776) (hbase : base ≤ wr.heap.size)
    (h : ∀ v' w', OwR 5 bf w' base v' (xs ++ [X]) → wr.grownBy w' v.ownBlock → AppAt wr v v' (xs.length + 1) → wpList Try.prog ops Q rest (a.put o.dst v') w') : wpList Try.prog ops Q (o :: rest) a (wr.alloc (.cells #[.int .u8 n] 5)) := by
  subst hX
  exact wpList_appR (f := bf) wr hgd s x 31 ho base 5 (.int .u8 0) 1 Try.underlying31 info_byte rfl (by omega) v xs hs hown X rfl hx hm hlen hbase h
theorem OwR.emptyB (w : World) (base : Nat) (hb : base ≤ w.heap.size) : OwR 5 bf (w.alloc (.cells #[] 5)) base (.slice (some ⟨w.heap.size, 0, none⟩) 0 0) [] := OwR.lit (e := 5) (f := bf) w [] base hb (by simp)
end Go.Proofs.Ytnkkgfeegaiakaa
