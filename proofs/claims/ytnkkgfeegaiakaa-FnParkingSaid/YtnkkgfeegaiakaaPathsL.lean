/- Contracts of PathsOf, the program's and the reference's: both return the paths of a size in order, in new memory. No condition. -/
import Derived.Test.YtnkkgfeegaiakaaPlain25
import Derived.Test.YtnkkgfeegaiakaaAppN
import Derived.Test.YtnkkgfeegaiakaaNum
import Derived.Test.YtnkkgfeegaiakaaGround
import Derived.OneCell
namespace Go.Proofs.Ytnkkgfeegaiakaa
open Go.RowKit
theorem info_str : (Try.prog.info? 9).map (fun i => (i.zero, i.size, i.bytes)) = some (some (Value.string ByteArray.empty), 1, 16) := by kernel_rfl
/-- a text as a cell -/
def sf (l : List UInt8) : Value := .string (S l)
def RetL (w : World) (R : List (List UInt8)) (e : Ending) (w' : World) : Prop := ∃ r, e = .returned r ∧ OwR 9 sf w' w.heap.size r R ∧ Below w.heap.size w w'
theorem RetL.mk {w w' : World} {R l : List (List UInt8)} {r : Value} (h : R = l) (hr : OwR 9 sf w' w.heap.size r l) (hb : Below w.heap.size w w') : RetL w R (.returned r) w' := by
  subst h; exact ⟨r, rfl, hr, hb⟩
theorem OwR.emptyS (w : World) (base : Nat) (hb : base ≤ w.heap.size) : OwR 9 sf (w.alloc (.cells #[] 9)) base (.slice (some ⟨w.heap.size, 0, none⟩) 0 0) [] := OwR.lit (e := 9) (f := sf) w [] base hb (by simp)
theorem OwR.oneS (w : World) (base : Nat) (l : List UInt8) (hb : base ≤ w.heap.size) : OwR 9 sf (w.alloc (.cells #[.string (S l)] 9)) base (.slice (some ⟨w.heap.size, 0, none⟩) 1 1) [l] := OwR.lit (e := 9) (f := sf) w [l] base hb (by simp)
/-- 'append' of one text -/
theorem wpList_appS (wr : World) {ops : Array Oper} {rest : List Oper} {o : Oper} {a : Act} {Q : Exit → Act → World → Prop} (hgd : o.guard = none) (s x : Operand)
    (ho : o.op = .call { callee := .builtin .append, args := #[s, x], argTypes := #[64, 64] })
    (base : Nat) (v : Value) (xs : List (List UInt8)) (hs : a.eval s = v) (hown : OwR 9 sf wr base v xs) (X : List UInt8)
    {m : Nat} (hx : a.eval x = .slice (some ⟨m, 0, none⟩) 1 1) (hm : m = wr.heap.size) (hlen : xs.length < 1099511627776) (hbase : base ≤ wr.heap.size)
    (h : ∀ v' w', OwR 9 sf w' base v' (xs ++ [X]) → wr.grownBy w' v.ownBlock → AppAt wr v v' (xs.length + 1) → wpList Try.prog ops Q rest (a.put o.dst v') w') : wpList Try.prog ops Q (o :: rest) a (wr.alloc (.cells #[.string (S X)] 9)) :=
  wpList_appR (f := sf) wr hgd s x 64 ho base 9 (.string ByteArray.empty) 16 Try.underlying64 info_str rfl (by omega) v xs hs hown X rfl hx hm hlen hbase h
/-- 'append(s, x...)' of texts -/
theorem wpList_appSs (wr : World) {ops : Array Oper} {rest : List Oper} {o : Oper} {a : Act} {Q : Exit → Act → World → Prop} (hgd : o.guard = none) (s x : Operand)
    (ho : o.op = .call { callee := .builtin .append, args := #[s, x], argTypes := #[64, 64] })
    (base : Nat) (v : Value) (xs ys : List (List UInt8)) (hs : a.eval s = v) (hown : OwR 9 sf wr base v xs) (A : Option Addr) (c : Nat) (hx : a.eval x = .slice A ys.length c) (hrd : RdR sf wr (.slice A ys.length c) ys)
    (hlen : xs.length + ys.length ≤ 1099511627776) (hbase : base ≤ wr.heap.size)
    (h : ∀ v' w', OwR 9 sf w' base v' (xs ++ ys) → wr.grownBy w' v.ownBlock → (v'.ownBlock = v.ownBlock ∨ v'.ownBlock = some wr.heap.size) → wpList Try.prog ops Q rest (a.put o.dst v') w') : wpList Try.prog ops Q (o :: rest) a wr :=
  wpList_appRow (f := sf) wr hgd s x 64 ho base 9 (.string ByteArray.empty) 16 Try.underlying64 info_str rfl (by omega) v xs ys hs hown A c hx hrd (fun _ => rfl) hlen hbase h
theorem S_u (l : List UInt8) : S l ++ (⟨#[117]⟩ : ByteArray) = S (l ++ [cU]) := S_snoc l cU
theorem S_d (l : List UInt8) : S l ++ (⟨#[100]⟩ : ByteArray) = S (l ++ [cD]) := S_snoc l cD
set_option maxHeartbeats 1600000 in
theorem l3All_any : ∀ (n up down : Nat), n = up + down → up ≤ down → down ≤ 6 → ∀ (l : List UInt8) (w : World), l.length + n ≤ 100 →
    Calls Try.prog 216 #[.string (S l), .int .i64 (up : Int), .int .i64 (down : Int)] w (RetL w (allP n l up down)) := by
  intro n
  induction n with
  | zero =>
    intro up down hn hle hd l w hl
    have fd : ((down : Int) == 0) = true := beq_iff_eq.2 (by omega)
    have HE := Lib.hid (show allP 0 l up down = [l] from rfl)
    clear hn hle hd
    have o := OwR.oneS w w.heap.size l (Nat.le_refl _)
    go_enter Try.func216, Try.ntmps216
    go_wp2_with fail
    go_ret
    exact RetL.mk HE.out o ((Below.refl _ _).alloc (Nat.le_refl _) _)
  | succ n ih =>
    intro up down hn hle hd l w hl
    have hS : (S l).size ≤ 100 := by rw [S_size]; omega
    have hd0 : 0 < down := by omega
    have fd : ((down : Int) == 0) = false := beq_eq_false_iff_ne.2 (by omega)
    have o0 := OwR.emptyS w w.heap.size (Nat.le_refl _)
    have B0 : Below w.heap.size w (w.alloc (.cells #[] 9)) := (Below.refl _ _).alloc (Nat.le_refl _) _
    have HIu := Lib.hid (fun (h : 0 < up) => ih (up - 1) down (by omega) (by omega) hd (l ++ [cU]))
    have HId := Lib.hid (fun (h : up < down) => ih up (down - 1) (by omega) (by omega) (by omega) (l ++ [cD]))
    have HQ := Lib.hid (show allP (n + 1) l up down = (if 0 < up then allP n (l ++ [cU]) (up - 1) down else []) ++ (if up < down then allP n (l ++ [cD]) up (down - 1) else []) from rfl)
    have hl1 := allP_len n (l ++ [cU]) (up - 1) down
    have hl2 := allP_len n (l ++ [cD]) up (down - 1)
    have h2n : 2 ^ n ≤ 4096 := by
      have : 2 ^ n ≤ 2 ^ 12 := Nat.pow_le_pow_right (by omega) (by omega)
      omega
    have hu1 := S_u l
    have hd1 := S_d l
    have e1 : (down : Int) - 1 = ((down - 1 : Nat) : Int) := by omega
    generalize 2 ^ n = N at hl1 hl2 h2n
    clear ih hn
    by_cases hu : 0 < up
    · have e2 : (up : Int) - 1 = ((up - 1 : Nat) : Int) := by omega
      have hui : (0 : Int) < (up : Int) := by omega
      go_enter Try.func216, Try.ntmps216
      go_wp2_with fail
      refine (HIu.out hu _ (by simp; omega)).mono ?_; rintro e w1 ⟨r1, rfl, o1, b1⟩
      have B1 := below_then B0 b1
      have p1 := o0.below b1
      have hsz1 := B1.size
      obtain ⟨A1, c1, rfl, _⟩ := id o1.rd
      have rd1 := o1.rd
      clear o0 b1 o1 B0
      go_wp2_with (at_builtin; refine wpList_appSs _ rfl _ _ rfl w.heap.size _ [] _ rfl p1 A1 c1 rfl rd1 (by first | omega | (simp; omega)) hsz1 ?_)
      intro v1 x1 q1 g1 a1
      have D1 := below_of_own B1 g1 hsz1 (fun g hg => (p1.lt g hg).1)
      clear p1 g1 a1 B1 rd1 hsz1
      by_cases hlt : up < down
      · have hli : (up : Int) < (down : Int) := by omega
        go_wp2_with fail
        refine (HId.out hlt _ (by simp; omega)).mono ?_; rintro e w2 ⟨r2, rfl, o2, b2⟩
        have B2 := below_then D1 b2
        have p2 := q1.below b2
        have hsz2 := B2.size
        obtain ⟨A2, c2, rfl, _⟩ := id o2.rd
        have rd2 := o2.rd
        clear q1 b2 o2 D1
        go_wp2_with (at_builtin; refine wpList_appSs _ rfl _ _ rfl w.heap.size _ _ _ rfl p2 A2 c2 rfl rd2 (by first | omega | (simp; omega)) hsz2 ?_)
        intro v2 x2 q2 g2 a2
        have D2 := below_of_own B2 g2 hsz2 (fun g hg => (p2.lt g hg).1)
        clear p2 g2 a2 B2 rd2 hsz2
        go_wp2_with fail
        go_ret
        exact RetL.mk (by rw [HQ.out, if_pos hu, if_pos hlt]) q2 D2
      · have hli : ¬ (up : Int) < (down : Int) := by omega
        go_wp2_with fail
        go_ret
        exact RetL.mk (by rw [HQ.out, if_pos hu, if_neg hlt]; simp) q1 D1
    · have hlt : up < down := by omega
      have hu0 : up = 0 := by omega
      have hui : ¬ (0 : Int) < (up : Int) := by omega
      have hli : (up : Int) < (down : Int) := by omega
      clear hu0
      go_enter Try.func216, Try.ntmps216
      go_wp2_with fail
      refine (HId.out hlt _ (by simp; omega)).mono ?_; rintro e w1 ⟨r1, rfl, o1, b1⟩
      have B1 := below_then B0 b1
      have p1 := o0.below b1
      have hsz1 := B1.size
      obtain ⟨A1, c1, rfl, _⟩ := id o1.rd
      have rd1 := o1.rd
      clear o0 b1 o1 B0
      go_wp2_with (at_builtin; refine wpList_appSs _ rfl _ _ rfl w.heap.size _ [] _ rfl p1 A1 c1 rfl rd1 (by first | omega | (simp; omega)) hsz1 ?_)
      intro v1 x1 q1 g1 a1
      have D1 := below_of_own B1 g1 hsz1 (fun g hg => (p1.lt g hg).1)
      clear p1 g1 a1 B1 rd1 hsz1
      go_wp2_with fail
      go_ret
      exact RetL.mk (by rw [HQ.out, if_neg hu, if_pos hlt]; rfl) q1 D1
theorem specPathsOf_any (n : Int) (w : World) (_hn : I64 n) : Calls Try.prog 133 #[.int .i64 n] w (RetL w (pathsV n)) := by
  by_cases h : 0 ≤ n ∧ n ≤ 6
  · obtain ⟨m, rfl⟩ := Int.eq_ofNat_of_zero_le h.1
    have hm : m ≤ 6 := by omega
    have HV := Lib.hid (show pathsV (m : Int) = pathsL m by unfold pathsV; rw [if_pos h, Int.toNat_natCast])
    have HC := Lib.hid (l3All_any (m + m) m m rfl (Nat.le_refl _) hm [] w (by simp; omega))
    have h0 : S [] = (⟨#[]⟩ : ByteArray) := rfl
    rw [h0] at HC
    clear h h0
    go_enter Try.func133, Try.ntmps133
    go_wp2_with (first | (go_at_call 185; refine (l1In_yes _ _ _ _ (by omega) (by omega)).mono ?_; rintro e w' ⟨rfl, rfl⟩) | (go_at_call 216; refine HC.out.mono ?_; rintro e w1 ⟨r, rfl, o1, b1⟩))
    go_ret
    exact RetL.mk HV.out o1 b1
  · have HV := Lib.hid (show pathsV n = [] by unfold pathsV; rw [if_neg h])
    have o := OwR.emptyS w w.heap.size (Nat.le_refl _)
    go_enter Try.func133, Try.ntmps133
    go_wp2_with (go_at_call 185; refine (l1In_no _ _ _ _ h).mono ?_; rintro e w' ⟨rfl, rfl⟩)
    go_ret
    exact RetL.mk HV.out o ((Below.refl _ _).alloc (Nat.le_refl _) _)
/-- two captured variables: a slice of texts that grows, and the function that calls itself -/
structure BoxS (w : World) (base bo bm : Nat) (tm : TypeId) (F v : Value) (xs : List (List UInt8)) : Prop where
  co : w.heap[bo]? = some (.cells #[v] 64 (0, 0))
  cm : w.heap[bm]? = some (.cells #[F] tm (0, 0))
  own : OwR 9 sf w base v xs
  no : v.ownBlock ≠ some bo
  nm : v.ownBlock ≠ some bm
  ne : bm ≠ bo
theorem BoxS.start (w : World) (tm : TypeId) (F : Value) : BoxS (((w.alloc (.cells #[] 9)).alloc (.cells #[.slice (some ⟨w.heap.size, 0, none⟩) 0 0] 64)).alloc (.cells #[F] tm)) w.heap.size (w.heap.size + 1) (w.heap.size + 1 + 1) tm F (.slice (some ⟨w.heap.size, 0, none⟩) 0 0) [] := by
  have o0 := OwR.emptyS w w.heap.size (Nat.le_refl _)
  have h1 : (w.alloc (.cells #[] 9)).heap.size = w.heap.size + 1 := by simp
  have h2 : ((w.alloc (.cells #[] 9)).alloc (.cells #[.slice (some ⟨w.heap.size, 0, none⟩) 0 0] 64)).heap.size = w.heap.size + 1 + 1 := by simp
  refine ⟨?_, ?_, ?_, ?_, ?_, by omega⟩
  · rw [Below.heap_alloc _ _ _ (by rw [h2]; omega)]
    have := heap_alloc_new (w.alloc (.cells #[] 9)) (.cells #[.slice (some ⟨w.heap.size, 0, none⟩) 0 0] 64)
    rwa [h1] at this
  · have := heap_alloc_new ((w.alloc (.cells #[] 9)).alloc (.cells #[.slice (some ⟨w.heap.size, 0, none⟩) 0 0] 64)) (.cells #[F] tm)
    rwa [h2] at this
  · exact (o0.below ((Below.refl _ _).alloc (Nat.le_refl _) _)).below ((Below.refl _ _).alloc (Nat.le_refl _) _)
  · simp [Value.ownBlock]
  · simp [Value.ownBlock]; omega
theorem BoxS.push {w : World} {base bo bm : Nat} {tm : TypeId} {F v : Value} {xs : List (List UInt8)} (h : BoxS w base bo bm tm F v xs) (hb : base ≤ bo)
    {v' : Value} {w1 : World} {X : List UInt8} {n : Nat} (ho : OwR 9 sf w1 base v' (xs ++ [X])) (hg : w.grownBy w1 v.ownBlock) (hat : AppAt w v v' n) :
    w1.cell? ⟨bo, 0, none⟩ = some v ∧ w1.frozen? ⟨bo, 0, none⟩ = false ∧ BoxS (w1.setCell ⟨bo, 0, none⟩ v') base bo bm tm F v' (xs ++ [X]) ∧ Below base w (w1.setCell ⟨bo, 0, none⟩ v') := by
  have lo := lt_of_block h.co
  have lm := lt_of_block h.cm
  have c1 : w1.heap[bo]? = some (.cells #[v] 64 (0, 0)) := (hg.block bo lo (fun e => h.no e.symm)).trans h.co
  have m1 : w1.heap[bm]? = some (.cells #[F] tm (0, 0)) := (hg.block bm lm (fun e => h.nm e.symm)).trans h.cm
  have far : ∀ g, (w.heap.size ≤ g ∨ v.ownBlock = some g) → g ≠ bo ∧ g ≠ bm := fun g hg => by
    rcases hg with hg | hg
    · omega
    · exact ⟨fun e => h.no (e ▸ hg), fun e => h.nm (e ▸ hg)⟩
  have hv : ∀ g, v'.ownBlock = some g → g ≠ bo ∧ g ≠ bm := fun g hg => by
    rcases hat.1 with e | e
    · exact far g (.inr (e ▸ hg))
    · rw [e] at hg; injection hg with hg; exact far g (.inl (by omega))
  refine ⟨cell_of_one c1, free_of_one c1, ⟨one_setCell c1, ?_, ⟨ownsRow_setCell_other ho.1 (fun e => (hv bo e).1 rfl) v', ho.2⟩, fun e => (hv bo e).1 rfl, fun e => (hv bm e).2 rfl, h.ne⟩, ?_⟩
  · rw [Below.heap_setCell _ _ _ _ h.ne]; exact m1
  · exact Below.setCell (Below.grown (Below.refl _ _) hg (by omega) (fun g hg => (h.own.lt g hg).1)) hb v'
end Go.Proofs.Ytnkkgfeegaiakaa
