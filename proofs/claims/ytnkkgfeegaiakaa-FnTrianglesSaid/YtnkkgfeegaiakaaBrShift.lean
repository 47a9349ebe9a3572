/- Contracts of ShiftBrackets, the program's and the reference's: the brackets of the shifted path. Condition: a short text. -/
import Derived.Test.YtnkkgfeegaiakaaBrack
import Derived.Test.YtnkkgfeegaiakaaGround
import Derived.Laws.IdiomStrings
import Derived.Deep.AppendSrc
namespace Go.Proofs.Ytnkkgfeegaiakaa
open Go.RowKit
theorem S_app (a b : List UInt8) : S a ++ S b = S (a ++ b) := by
  unfold S
  rw [ByteArray.mk_append_mk]
  try simp
theorem L_cut (s : ByteArray) (a b : Nat) : L (s.extract a b) = ((L s).drop a).take (b - a) := by
  unfold L
  rw [ByteArray.data_extract, Array.toList_extract, List.extract_eq_take_drop]
theorem S_of {s : ByteArray} {l : List UInt8} (h : L s = l) : s = S l := by rw [← h, S_L]
theorem to_L (s : ByteArray) : s.toList = L s := by
  cases s with
  | mk d => rw [ByteArray.toList_mk]; rfl
theorem frozen_at {w w' : World} {b o : Nat} (h : w'.heap[b]? = w.heap[b]?) : w'.frozen? ⟨b, o, none⟩ = w.frozen? ⟨b, o, none⟩ := by simp [World.frozen?, h]
/-- a text turned into bytes -/
structure Byt (w W : World) (b : ByteArray) (c : Nat) : Prop where
  run : (convert 9 31 (.string b)).run Try.prog w = .ok (.slice (some ⟨w.heap.size, 0, none⟩) b.size c) W
  le : b.size ≤ c
  max : c ≤ maxLen
  below : Below w.heap.size w W
  size : W.heap.size = w.heap.size + 1
  cell : ∀ k (h : k < b.size), W.cell? ⟨w.heap.size, k, none⟩ = some (.int .u8 (b[k].toNat : Int))
  there : ∀ k, k < c → (W.cell? ⟨w.heap.size, k, none⟩).isSome = true ∧ W.frozen? ⟨w.heap.size, k, none⟩ = false
theorem byt (w : World) (b : ByteArray) (hb : b.size ≤ 1000) : ∃ c W, Byt w W b c := by
  have hge := grownCap_ge w b.size 0 5
  have hle := grownCap_le_maxLen w b.size 0 5 (by unfold maxLen; omega)
  have hrun := run_bytes_of_string (P := Try.prog) w 9 31 5 b Try.underlying9 Try.underlying31 Try.underlying5
  generalize grownCap w b.size 0 5 = c at *
  have hsz : (bytesRow b c).size = c := by
    unfold bytesRow
    rw [Array.size_append, Array.size_map, Array.size_replicate]
    show b.size + (c - b.size) = c
    omega
  refine ⟨c, _, hrun, hge, hle, (below_draws w 1).alloc (Nat.le_refl _) _, by simp, fun k hk => ?_, fun k hk => ⟨?_, ?_⟩⟩
  · have := World.cell?_alloc_mark w.drew (bytesRow b c) 5 ((bytesRow b c).size, (bytesRow b c).size + 1) k
    exact this.trans (bytesRow_at b c k hk)
  · have := World.cell?_alloc_mark w.drew (bytesRow b c) 5 ((bytesRow b c).size, (bytesRow b c).size + 1) k
    have e : (w.drew.alloc (.cells (bytesRow b c) 5 ((bytesRow b c).size, (bytesRow b c).size + 1))).cell? ⟨w.heap.size, k, none⟩ = (bytesRow b c)[k]? := this
    rw [e, Array.getElem?_eq_getElem (by rw [hsz]; exact hk)]
    rfl
  · have := World.frozen?_alloc_mark w.drew (bytesRow b c) 5 (bytesRow b c).size ((bytesRow b c).size + 1) k
    have e : (w.drew.alloc (.cells (bytesRow b c) 5 ((bytesRow b c).size, (bytesRow b c).size + 1))).frozen? ⟨w.heap.size, k, none⟩ = _ := this
    rw [e, hsz, decide_eq_false (by omega)]
    rfl
/-- what 'append' of one byte leaves of bytes at place 1 of a block -/
structure Ap1 (wr w' : World) (g : Nat) (v' : Value) (ys : List UInt8) : Prop where
  at_ : ∃ g' o' c', v' = .slice (some ⟨g', o', none⟩) ys.length c' ∧ ∀ k (_ : k < ys.length), w'.cell? ⟨g', o' + k, none⟩ = some (bf ys[k])
  grown : wr.grownBy w' (some g)
set_option maxRecDepth 100000 in
theorem app_one (wr : World) (g c h : Nat) (xs : List UInt8) (X : UInt8) (ty : TypeId) (hx : xs.length ≤ 1000) (hle : xs.length ≤ c) (hcell : ∀ k (_ : k < xs.length), wr.cell? ⟨g, 1 + k, none⟩ = some (bf xs[k])) (hth : ∀ k, k < c → (wr.cell? ⟨g, 1 + k, none⟩).isSome = true ∧ wr.frozen? ⟨g, 1 + k, none⟩ = false) (hX : wr.cell? ⟨h, 0, none⟩ = some (bf X)) :
    ∃ v' w', (Builtin.append_ #[31, 31] ty #[.slice (some ⟨g, 1, none⟩) xs.length c, .slice (some ⟨h, 0, none⟩) 1 1]).run Try.prog wr = .ok v' w' ∧ Ap1 wr w' g v' (xs ++ [X]) := by
  obtain ⟨i, hi, hz, hs, hb⟩ := info_parts info_byte
  have hsrc : Src Try.prog i.size 31 (.slice (some ⟨h, 0, none⟩) 1 1) 1 [bf X] wr := by
    rw [hs]
    refine Src.ofSlice wr Try.underlying31 ⟨h, 0, none⟩ 1 1 [bf X] rfl (fun j u hu => ?_) (fun u hu => by rw [List.mem_singleton.1 hu]; rfl)
    have hj : j = 0 := by
      rcases Nat.eq_zero_or_pos j with q | q
      · exact q
      · rw [List.getElem?_eq_none (by simp; omega)] at hu; cases hu
    subst hj
    injection hu with hu
    subst hu
    exact hX
  by_cases hr : xs.length + 1 ≤ c
  · have hq := hth xs.length (by omega)
    have hrun := run_append_room_src (P := Try.prog) wr 31 31 ty 5 i Try.underlying31 hi g 1 xs.length c _ 1 [bf X] hsrc hr
      (fun j hj => by have : j = 0 := by simp at hj; omega
                      subst this; rw [hs, Nat.mul_one, Nat.add_zero]; exact hq.1)
      (fun j hj => by have : j = 0 := by simp at hj; omega
                      subst this; rw [hs, Nat.mul_one, Nat.add_zero]; exact hq.2)
    rw [hs, Nat.mul_one] at hrun
    refine ⟨_, _, hrun, ⟨⟨g, 1, c, by rw [List.length_append]; rfl, fun k hk => ?_⟩, ?_⟩⟩
    · rw [List.length_append, List.length_singleton] at hk
      show (wr.setCell ⟨g, 1 + xs.length, none⟩ (bf X)).cell? ⟨g, 1 + k, none⟩ = _
      by_cases hkl : k < xs.length
      · rw [World.cell?_setCell_other _ _ _ _ (fun e => by injection e with _ e; omega), hcell k hkl, List.getElem_append_left hkl]
      · obtain rfl : k = xs.length := by omega
        obtain ⟨u, hu⟩ := Option.isSome_iff_exists.1 hq.1
        rw [World.cell?_setCell_same _ _ _ hu, List.getElem_append_right (Nat.le_refl _)]
        simp
    · exact grown_set wr g (1 + xs.length) (bf X)
  · have hold : (Builtin.firstCells i.size xs.length (.slice (some ⟨g, 1, none⟩) xs.length c)).run Try.prog wr.drew = .ok (xs.map bf).toArray wr.drew := by
      rw [hs]
      refine run_firstCells_some wr.drew 1 xs.length ⟨g, 1, none⟩ xs.length c (xs.map bf) (by simp) (fun j u hu => ?_)
      rw [List.getElem?_map] at hu
      rcases Nat.lt_or_ge j xs.length with q | q
      · rw [List.getElem?_eq_getElem q] at hu
        injection hu with hu
        subst hu
        rw [Addr.add_lit]
        exact hcell j q
      · rw [List.getElem?_eq_none q] at hu; cases hu
    have hrun := run_append_grow_src (P := Try.prog) wr 31 31 ty 5 i (.int .u8 0) Try.underlying31 hi hz (some ⟨g, 1, none⟩) xs.length c (xs.map bf) hold _ 1 [bf X] hsrc (by omega) (by omega) (growslice_fits (by omega) (by rw [hb]; omega))
    refine ⟨_, _, hrun, ⟨⟨wr.heap.size, 0, _, by rw [List.length_append]; rfl, fun k hk => ?_⟩, ?_⟩⟩
    · have e1 := World.cell?_alloc_new wr.drew ((xs.map bf ++ [bf X]).toArray ++ Builtin.zeroCells (Value.int .u8 0).cells (grownCap wr (xs.length + 1) c 5 - (xs.length + 1))) 5 k
      rw [Nat.zero_add]
      have e2 : (wr.drew.alloc (.cells ((xs.map bf ++ [bf X]).toArray ++ Builtin.zeroCells (Value.int .u8 0).cells (grownCap wr (xs.length + 1) c 5 - (xs.length + 1))) 5)).cell? ⟨wr.heap.size, k, none⟩ = _ := e1
      rw [e2, Array.getElem?_append_left (by simpa using hk), List.getElem?_toArray, show xs.map bf ++ [bf X] = (xs ++ [X]).map bf by simp, List.getElem?_map, List.getElem?_eq_getElem hk]
      rfl
    · exact grown_trans_row (grown_draws wr 1 (some g)) (grown_alloc wr.drew _ _)
theorem wpList_appOne (wr : World) {ops : Array Oper} {rest : List Oper} {o : Oper} {a : Act} {Q : Exit → Act → World → Prop} (hgd : o.guard = none) (s x : Operand)
    (ho : o.op = .call { callee := .builtin .append, args := #[s, x], argTypes := #[31, 31] })
    (g c h n : Nat) (xs : List UInt8) (X : UInt8) (hn : n = xs.length) (hs : a.eval s = .slice (some ⟨g, 1, none⟩) n c) (hxv : a.eval x = .slice (some ⟨h, 0, none⟩) 1 1) (hx : xs.length ≤ 1000) (hle : xs.length ≤ c) (hcell : ∀ k (_ : k < xs.length), wr.cell? ⟨g, 1 + k, none⟩ = some (bf xs[k])) (hth : ∀ k, k < c → (wr.cell? ⟨g, 1 + k, none⟩).isSome = true ∧ wr.frozen? ⟨g, 1 + k, none⟩ = false) (hX : wr.cell? ⟨h, 0, none⟩ = some (bf X))
    (hK : ∀ v' w', Ap1 wr w' g v' (xs ++ [X]) → wpList Try.prog ops Q rest (a.put o.dst v') w') : wpList Try.prog ops Q (o :: rest) a wr := by
  subst hn
  refine wpList_plain hgd fun K hK' => ?_
  obtain ⟨v', w', hrun, r'⟩ := app_one wr g c h xs X o.type hx hle hcell hth hX
  unfold Oper.wp execOp
  simp only [ho, resolve, invoke, builtin, Sem.run_bind, Sem.run_pure, Result.andThen_ok, List.map_toArray, List.map_cons, List.map_nil, hs, hxv, hrun]
  exact hK' _ _ (hK v' w' r')
theorem conv_at {w : World} {g o c : Nat} {l : List UInt8} (h : ∀ k (_ : k < l.length), w.cell? ⟨g, o + k, none⟩ = some (bf l[k])) : (convert 31 9 (.slice (some ⟨g, o, none⟩) l.length c)).run Try.prog w = .ok (.string (S l)) w := by
  refine run_convert_bytes_back (P := Try.prog) w 31 9 5 ⟨g, o, none⟩ c l Try.underlying31 Try.underlying5 Try.underlying9 ?_
  intro j hj
  rw [Addr.add_lit]
  exact h j hj
theorem sh_spec {b : ByteArray} {l : List UInt8} {j : Nat} (hb : L b = brk l) (hd : DyckP l) (hl : l.length ≤ 12) (h0 : l ≠ []) (hj : (prt l).getD 0 0 = (j : Int)) (hjl : j < l.length) (hj0 : 0 < j) :
    b.extract 1 j ++ ⟨#[40]⟩ ++ b.extract (j + 1) b.size ++ ⟨#[41]⟩ = S (brk (shP l)) := by
  obtain ⟨_, e⟩ := brk_shP hd hl h0 hj hjl hj0
  rw [S_of (L_cut b 1 j), S_of (L_cut b (j + 1) b.size), S_snoc, S_app, S_snoc, e, hb]
  congr 2
  have e1 : ((brk l).take j).drop 1 = ((brk l).drop 1).take (j - 1) := by rw [List.drop_take]
  have e2 : ((brk l).drop (j + 1)).take (b.size - (j + 1)) = (brk l).drop (j + 1) := List.take_of_length_le (by rw [List.length_drop, brk_len, brk_at hb]; exact Nat.le_refl _)
  rw [e1, e2]
theorem first_arc {l : List UInt8} (hd : DyckP l) (h0 : l ≠ []) : ∃ j : Nat, (prt l).getD 0 0 = (j : Int) ∧ Arc l 0 j ∧ j < l.length ∧ 0 < j := by
  have hp : 0 < l.length := List.length_pos_iff.2 h0
  obtain ⟨j, h1, h2⟩ := prt_at hd hp
  rcases h2 with q | q
  · exact ⟨j, h1, q, q.2.1, q.1⟩
  · have := q.1; omega
set_option maxHeartbeats 1000000 in
theorem specShift_yes (b : ByteArray) (l : List UInt8) (w : World) (hb : L b = brk l) (hd : DyckP l) (hl : l.length ≤ 12) (h0 : l ≠ []) :
    Calls Try.prog 48 #[.string b] w (RetSB w (brk (shP l), true)) := by
  obtain ⟨j, hj, ha, hjl, hj0⟩ := first_arc hd h0
  have HE := specPathOfBrackets_any b l w hb hd
  have HC : Hid (∀ wq, Calls Try.prog 190 #[.string (S l)] wq fun e w' => e = .returned (.int .i64 (j : Int)) ∧ wq = w') := Lib.hid (fun wq => l2Cut_any (S l) j wq (by rw [L_S]; exact hd) (by rw [L_S]; exact ha))
  have HX := Lib.hid (sh_spec hb hd hl h0 hj hjl hj0)
  have hbs : b.size = l.length := brk_at hb
  have f0 : b.toList.isEmpty = false := by
    rw [to_L, hb]
    cases l with
    | nil => exact absurd rfl h0
    | cons c l => rfl
  have hj1 : 1 ≤ j := hj0
  have hjb : j < b.size := by omega
  have hjb2 : j ≤ b.size := by omega
  have hb12 : b.size ≤ 12 := by omega
  have p1 : IntKind.i64.wrap ((j : Int) + 1) = (j : Int) + 1 := IntWalk.i64_in _ (by omega)
  have p2 : ((j : Int) + 1).toNat = j + 1 := by omega
  have p3 : (0 : Int) ≤ (j : Int) + 1 := by omega
  have p4 : (j : Int) + 1 ≤ (b.size : Int) := by omega
  have p5 : (1 : Int) ≤ (j : Int) := by omega
  have p6 : (j : Int) ≤ (b.size : Int) := by omega
  have e1 : (b.extract 1 j).size ≤ 12 := by rw [ByteArray.size_extract]; omega
  have e2 : (b.extract (j + 1) b.size).size ≤ 12 := by rw [ByteArray.size_extract]; omega
  clear hb hd hl h0 hj ha hjl hbs hj0
  go_enter Try.func48, Try.ntmps48
  go_wp2_with fail
  refine HE.mono ?_; clear HE; rintro e w1 ⟨rfl, b1⟩
  go_wp2_with fail
  refine (HC.out _).mono ?_; rintro e w2 ⟨rfl, rfl⟩
  go_wp2_with fail
  go_quiet (fail)
  go_wp2_with fail
  go_ret2
  exact RetSB.mk rfl HX.out (below_then b1 (below_draws w1 _))
theorem specShift_nil (b : ByteArray) (w : World) (hb : L b = []) :
    Calls Try.prog 48 #[.string b] w (RetSB w ([], true)) := by
  have HE := specPathOfBrackets_any b [] w hb (by decide)
  have f0 : b.toList.isEmpty = true := by rw [to_L, hb]; rfl
  clear hb
  go_enter Try.func48, Try.ntmps48
  go_wp2_with fail
  refine HE.mono ?_; clear HE; rintro e w1 ⟨rfl, b1⟩
  go_wp2_with fail
  go_ret2
  exact RetSB.mk rfl rfl b1
theorem specShift_no (b : ByteArray) (w : World) (hb : b.size ≤ 16) (hn : ¬ BrP (L b)) :
    Calls Try.prog 48 #[.string b] w (RetSB w ([], false)) := by
  have HE := specPathOfBrackets_no b w hb hn
  clear hn
  go_enter Try.func48, Try.ntmps48
  go_wp2_with fail
  refine HE.mono ?_; clear HE; rintro e w1 ⟨rfl, b1⟩
  go_wp2_with fail
  go_ret2
  exact RetSB.mk rfl rfl b1
theorem implShift_nil (b : ByteArray) (w : World) (hb : L b = []) :
    Calls Try.prog 47 #[.string b] w (RetSB w ([], true)) := by
  have HE := implPathOfBrackets_any b [] w hb (by decide)
  have f0 : b.toList.isEmpty = true := by rw [to_L, hb]; rfl
  clear hb
  go_enter Try.func47, Try.ntmps47
  go_wp2_with fail
  refine HE.mono ?_; clear HE; rintro e w1 ⟨rfl, b1⟩
  go_wp2_with fail
  go_ret2
  exact RetSB.mk rfl rfl b1
theorem implShift_no (b : ByteArray) (w : World) (hb : b.size ≤ 16) (hn : ¬ BrP (L b)) :
    Calls Try.prog 47 #[.string b] w (RetSB w ([], false)) := by
  have HE := implPathOfBrackets_no b w hb hn
  clear hn
  go_enter Try.func47, Try.ntmps47
  go_wp2_with fail
  refine HE.mono ?_; clear HE; rintro e w1 ⟨rfl, b1⟩
  go_wp2_with fail
  go_ret2
  exact RetSB.mk rfl rfl b1
theorem shift_cells {w3 : World} {g j : Nat} {b : ByteArray} {l : List UInt8} (hb : L b = brk l) (hg : g < w3.heap.size) (hc : ∀ k (h : k < b.size), w3.cell? ⟨g, k, none⟩ = some (.int .u8 (b[k].toNat : Int))) (hj : j < b.size) (o : Obj) :
    ∀ k (_ : k < ((brk l).set j 40).tail.length), ((w3.setCell ⟨g, j, none⟩ (.int .u8 40)).alloc o).cell? ⟨g, 1 + k, none⟩ = some (bf ((brk l).set j 40).tail[k]) := by
  intro k hk
  have hbs := brk_at hb
  have hk2 : k + 1 < b.size := by rw [List.length_tail, List.length_set, brk_len] at hk; omega
  have hB : Below (w3.setCell ⟨g, j, none⟩ (.int .u8 40)).heap.size (w3.setCell ⟨g, j, none⟩ (.int .u8 40)) ((w3.setCell ⟨g, j, none⟩ (.int .u8 40)).alloc o) := (Below.refl _ _).alloc (Nat.le_refl _) _
  rw [hB.cell (p := ⟨g, 1 + k, none⟩) (by simpa using hg), List.getElem_tail, List.getElem_set, Nat.add_comm 1 k]
  by_cases e : j = k + 1
  · rw [if_pos e, ← e, World.cell?_setCell_same _ _ _ (hc j hj)]; rfl
  · rw [if_neg e, World.cell?_setCell_other _ _ _ _ (fun q => e (by injection q)), hc (k + 1) hk2]
    have : b[k + 1] = (brk l)[k + 1]'(by rw [brk_len]; omega) := by
      rw [← L_get b (k + 1) hk2]
      exact List.getElem_of_eq hb _
    rw [this]; rfl
theorem shift_there {w3 : World} {g j c : Nat} {b : ByteArray} (hg : g < w3.heap.size) (ht : ∀ k, k < c → (w3.cell? ⟨g, k, none⟩).isSome = true ∧ w3.frozen? ⟨g, k, none⟩ = false) (hc : ∀ k (h : k < b.size), w3.cell? ⟨g, k, none⟩ = some (.int .u8 (b[k].toNat : Int))) (hj : j < b.size) (o : Obj) :
    ∀ k, k < c - 1 → (((w3.setCell ⟨g, j, none⟩ (.int .u8 40)).alloc o).cell? ⟨g, 1 + k, none⟩).isSome = true ∧ ((w3.setCell ⟨g, j, none⟩ (.int .u8 40)).alloc o).frozen? ⟨g, 1 + k, none⟩ = false := by
  intro k hk
  have h1 := ht (1 + k) (by omega)
  have hB : Below (w3.setCell ⟨g, j, none⟩ (.int .u8 40)).heap.size (w3.setCell ⟨g, j, none⟩ (.int .u8 40)) ((w3.setCell ⟨g, j, none⟩ (.int .u8 40)).alloc o) := (Below.refl _ _).alloc (Nat.le_refl _) _
  refine ⟨?_, ?_⟩
  · rw [hB.cell (p := ⟨g, 1 + k, none⟩) (by simpa using hg)]
    by_cases e : j = 1 + k
    · rw [← e, World.cell?_setCell_same _ _ _ (hc j hj)]; rfl
    · rw [World.cell?_setCell_other _ _ _ _ (fun q => e (by injection q))]; exact h1.1
  · rw [frozen_at (hB.block g (by simpa using hg))]
    rw [World.frozen?_setCell]; exact h1.2
set_option maxHeartbeats 2000000 in
theorem implShift_yes (b : ByteArray) (l : List UInt8) (w : World) (hb : L b = brk l) (hd : DyckP l) (hl : l.length ≤ 12) (h0 : l ≠ []) :
    Calls Try.prog 47 #[.string b] w (RetSB w (brk (shP l), true)) := by
  obtain ⟨j, hj, ha, hjl, hj0⟩ := first_arc hd h0
  have HE := implPathOfBrackets_any b l w hb hd
  have HPT : Hid (∀ wq, Calls Try.prog 189 #[.string (S l)] wq (RetI wq (prt l))) := Lib.hid (fun wq => by have h := partners_any (S l) wq (by rw [L_S]; exact hd); rw [L_S] at h; exact h)
  have HPL := Lib.hid (prt_len hd)
  have HX := Lib.hid (brk_shP hd hl h0 hj hjl hj0).1
  have hbs : b.size = l.length := brk_at hb
  have f0 : b.toList.isEmpty = false := by
    rw [to_L, hb]
    cases l with
    | nil => exact absurd rfl h0
    | cons c l => rfl
  have HJ := Lib.hid hj
  have HB := Lib.hid hb
  have HBS := Lib.hid hbs
  have hjb : j < b.size := by omega
  have hb12 : b.size ≤ 12 := by omega
  have hb2 : 1 < b.size := by omega
  clear hb hd hl h0 hj ha hjl hbs
  go_enter Try.func47, Try.ntmps47
  go_wp2_with fail
  refine HE.mono ?_; clear HE; rintro e w1 ⟨rfl, b1⟩
  obtain ⟨c, W, hB⟩ := byt w1 b (by omega)
  have kb := hB.run
  have hcl := hB.le
  have HBY := Lib.hid hB
  clear hB
  go_wp2_with fail
  refine (HPT.out _).mono ?_; rintro e w3 ⟨r, rfl, o3, b3⟩
  have hp0 : 0 < (prt l).length := by rw [HPL.out, ← HBS.out]; omega
  obtain ⟨gr, cr, rfl⟩ : ∃ g cap, r = .slice (some ⟨g, 0, none⟩) (prt l).length cap := by
    rcases o3.shape with ⟨_, e⟩ | ⟨g, cap, e, _, _⟩
    · rw [e] at hp0; simp at hp0
    · exact ⟨g, cap, e⟩
  have c0 := o3.cellAt 0 hp0
  rw [← getD_of hp0 0, HJ.out] at c0
  have hpi : (0 : Int) < ((prt l).length : Int) := by omega
  obtain ⟨g1, hg1⟩ : ∃ g1, g1 = w1.heap.size := ⟨_, rfl⟩
  have hWs := HBY.out.size
  have hg1W : g1 < W.heap.size := by omega
  have HG := Lib.hid hg1
  have HW3 := Lib.hid (fun k => (b3.cell (p := ⟨g1, k, none⟩) hg1W))
  have HF3 := Lib.hid (fun k => frozen_at (o := k) (b3.block g1 hg1W))
  have HC3 := Lib.hid (show ∀ k (h : k < b.size), w3.cell? ⟨g1, k, none⟩ = some (.int .u8 (b[k].toNat : Int)) from fun k h => by rw [HW3.out k, hg1]; exact HBY.out.cell k h)
  have HT3 := Lib.hid (show ∀ k, k < c → (w3.cell? ⟨g1, k, none⟩).isSome = true ∧ w3.frozen? ⟨g1, k, none⟩ = false from fun k h => by rw [HW3.out k, HF3.out k, hg1]; exact HBY.out.there k h)
  have cj := HC3.out j hjb
  have fj := (HT3.out j (by omega)).2
  have hws3 := b3.size
  have HB3 := Lib.hid (below_then b1 (below_then HBY.out.below b3))
  have hg3 : g1 < w3.heap.size := by omega
  have HCS := Lib.hid (shift_cells HB.out hg3 HC3.out hjb (.cells #[.int .u8 41] 5))
  have HTS := Lib.hid (shift_there (j := j) hg3 HT3.out HC3.out hjb (.cells #[.int .u8 41] 5))
  have HLN := Lib.hid (show b.size - 1 = ((brk l).set j 40).tail.length by rw [List.length_tail, List.length_set, brk_len, HBS.out])
  have HLC := Lib.hid (show ((w3.setCell ⟨g1, j, none⟩ (.int .u8 40)).alloc (.cells #[.int .u8 41] 5)).cell? ⟨w3.heap.size, 0, none⟩ = some (bf 41) by
    have h := World.cell?_alloc_new (w3.setCell ⟨g1, j, none⟩ (.int .u8 40)) #[.int .u8 41] 5 0
    rw [show (w3.setCell ⟨g1, j, none⟩ (.int .u8 40)).heap.size = w3.heap.size by simp] at h
    exact h)
  have hl1 : ((brk l).set j 40).tail.length ≤ 1000 := by have := HLN.out; omega
  have hl2 : ((brk l).set j 40).tail.length ≤ c - 1 := by have := HLN.out; omega
  have HBN : Hid (Below w.heap.size w ((w3.setCell ⟨g1, j, none⟩ (.int .u8 40)).alloc (.cells #[.int .u8 41] 5))) := by
    have h1 := HB3.out
    have hg1w : w.heap.size ≤ g1 := by rw [hg1]; exact b1.size
    exact (h1.setCell hg1w _).alloc (by simpa using h1.size) _
  have hg1w : w.heap.size ≤ g1 := by rw [hg1]; exact b1.size
  rw [← hg1]
  clear hg1 hWs hg1W o3 b1 b3 kb HW3 HF3 hws3
  go_wp2_with (at_builtin; refine wpList_appOne _ rfl _ _ rfl g1 (c - 1) w3.heap.size (b.size - 1) ((brk l).set j 40).tail 41 HLN.out rfl rfl hl1 hl2 HCS.out HTS.out HLC.out ?_)
  intro v4 w4 h4
  obtain ⟨⟨g4, o4, c4, rfl, q4⟩, k4⟩ := h4
  rw [← HX.out] at q4 ⊢
  have kc := conv_at (c := c4) q4
  have HB4 := Lib.hid (HBN.out.grown k4 HBN.out.size (fun i hi => by injection hi with hi; omega))
  clear q4 k4
  go_wp2_with fail
  go_ret2
  exact RetSB.mk rfl rfl HB4.out
end Go.Proofs.Ytnkkgfeegaiakaa
