/- Contracts of TurnPartition, the program's and the reference's. No condition. -/
import Derived.Test.YtdjickibifcelaaPart
import Derived.Test.YtdjickibifcelaaRenum
import Derived.Deep.RegionLaw
namespace Go.Proofs.Ytdjickibifcelaa
open Go.RowKit
def tpL (p : List Int) : List Int := p.getD (p.length - 1) 0 :: p.take (p.length - 1)
def tpR (p : List Int) : List Int × Bool := if PartP p then (if p.length = 0 then ([], true) else (rnL (tpL p), true)) else ([], false)
theorem tpL_len {p : List Int} (h : p.length ≠ 0) : (tpL p).length = p.length := by simp [tpL]; omega
set_option maxRecDepth 8000 in
/-- a whole slice appended, as a step of a region that draws -/
theorem step_appN (wr : World) {ops : Array Oper} {o : Oper} {a : Act} {K : Act → World → Prop} {Q : Exit → Act → World → Prop} {E : Prop} (hgd : o.guard = none) (s x : Operand)
    (ho : o.op = .call { callee := .builtin .append, args := #[s, x], argTypes := #[22, 22] })
    (base : Nat) (v : Value) (xs ys : List Int) (hs : a.eval s = v) (hown : OwI wr base v xs) (b off m c : Nat)
    (hx : a.eval x = .slice (some ⟨b, off, none⟩) m c) (hm : ys.length = m) (hc : ∀ j (h : j < ys.length), wr.cell? ⟨b, off + j, none⟩ = some (.int .i64 ys[j])) (hlen : xs.length + m ≤ 1099511627776) (hbase : base ≤ wr.heap.size)
    (h : ∀ v' w', OwI w' base v' (xs ++ ys) → wr.grownBy w' v.ownBlock → K (a.put o.dst v') w') :
    if Region.wanted o (yielded ops a.tmps) = true then Oper.wp Try.prog o a wr K Q else E := by
  obtain ⟨i0, hi, hz0, hz1, hz2⟩ := info_parts info_int
  have hw : Region.wanted o (yielded ops a.tmps) = true := by simp [Region.wanted, hgd]
  rw [if_pos hw]
  have hcell : ∀ j u, (ys.map (Value.int .i64))[j]? = some u → wr.cell? ((⟨b, off, none⟩ : Addr).add j) = some u := by
    intro j u hu
    rw [List.getElem?_map] at hu
    rcases Nat.lt_or_ge j ys.length with hj | hj
    · rw [List.getElem?_eq_getElem hj] at hu
      injection hu with hu
      subst hu
      have := hc j hj
      unfold Addr.add
      by_cases h0 : j = 0
      · subst h0; simpa using this
      · rw [if_neg h0]; exact this
    · rw [List.getElem?_eq_none hj] at hu; cases hu
  obtain ⟨v', w', hrun, h2, h3, h4, h5⟩ := run_append_own_at (P := Try.prog) wr base 22 o.type 3 i0 (.int .i64 0) 1 8 Try.underlying22 hi hz0 hz1 hz2 rfl (by omega) v xs.length (xs.map (Value.int .i64)) hown.1 ⟨b, off, none⟩ m c (ys.map (Value.int .i64)) (by simpa using hm) hcell
    (by intro u hu; obtain ⟨y, _, rfl⟩ := List.mem_map.1 hu; rfl) (by unfold maxLen; omega) (by omega) hbase
  unfold Oper.wp execOp
  simp only [ho, resolve, invoke, builtin, Sem.run_bind, Sem.run_pure, Result.andThen_ok, List.map_toArray, List.map_cons, List.map_nil, hs, hx, hrun]
  refine h v' w' ⟨?_, by rw [List.length_append]; omega⟩ h3
  rw [List.length_append, List.map_append, hm]
  exact h2
end Go.Proofs.Ytdjickibifcelaa
