/- Slices of slices of numbers: read, owned row by row, copied, compared, marked. No condition. -/
import Derived.Test.YtnkkgfeegaiakaaHelp
import Derived.Test.YtnkkgfeegaiakaaRows2
import Derived.Test.YtnkkgfeegaiakaaQuiet
namespace Go.Proofs.Ytnkkgfeegaiakaa
open Go.RowKit
/-- reads as a list of lists; owns one, row by row, in blocks from base on and below top -/
def RdSS (w : World) (v : Value) (xss : List (List Int)) : Prop :=
  ∃ A c, v = .slice A xss.length c ∧ xss.length ≤ c ∧ xss.length ≤ 1099511627776 ∧
    (0 < xss.length → ∃ b o, A = some ⟨b, o, none⟩ ∧ b < w.heap.size ∧ ∀ k (_ : k < xss.length), ∃ u, w.cell? ⟨b, o + k, none⟩ = some u ∧ RdI w u xss[k])
def rowOf (xss : List (List Int)) (i : Nat) : List Int := xss.getD i []
theorem rowOf_get {xss : List (List Int)} {i : Nat} (h : i < xss.length) : rowOf xss i = xss[i] := getD_of h []
def OwSS (w : World) (base top : Nat) (v : Value) (xss : List (List Int)) : Prop :=
  ∃ V : Nat → Value, OwR 38 id w base v ((List.range xss.length).map V) ∧ (∀ i, i < xss.length → OwI w base (V i) (rowOf xss i)) ∧ (∀ i j, i < j → j < xss.length → Apart (V i) (V j)) ∧
    (∀ g, v.ownBlock = some g → g < top) ∧ (∀ i, i < xss.length → ∀ g, (V i).ownBlock = some g → g < top)
/-- only blocks from base on and below top have turned -/
structure Turned (base top : Nat) (w w' : World) : Prop where
  os : w'.os = w.os
  tape : w'.tape = w.tape
  output : w'.output = w.output
  size : w.heap.size ≤ w'.heap.size
  block : ∀ k, k < w.heap.size → (k < base ∨ top ≤ k) → w'.heap[k]? = w.heap[k]?
theorem Turned.refl (base top : Nat) (w : World) : Turned base top w w := ⟨rfl, rfl, rfl, Nat.le_refl _, fun _ _ _ => rfl⟩
theorem Turned.trans {base top : Nat} {a b c : World} (h : Turned base top a b) (k : Turned base top b c) : Turned base top a c :=
  ⟨k.os.trans h.os, k.tape.trans h.tape, k.output.trans h.output, Nat.le_trans h.size k.size, fun i hi hne => (k.block i (Nat.lt_of_lt_of_le hi h.size) hne).trans (h.block i hi hne)⟩
theorem Turned.below {base top : Nat} {a b w : World} (h : Turned base top a b) (hb : Below w.heap.size w a) (h2 : w.heap.size ≤ base) : Below w.heap.size w b :=
  hb.trans ⟨h.os, h.tape, h.output, h.size, fun k hk => h.block k (Nat.lt_of_lt_of_le hk hb.size) (.inl (Nat.lt_of_lt_of_le hk h2))⟩
theorem Turned.of_row {base top : Nat} {a b : World} {v : Value} (h : a.grownBy b v.ownBlock) (hr : ∀ g, v.ownBlock = some g → base ≤ g ∧ g < top) : Turned base top a b :=
  ⟨h.os, h.tape, h.output, h.size, fun k hk hne => h.block k hk (fun e => by have := hr k e.symm; omega)⟩
theorem Turned.draws (base top : Nat) (w : World) (q : Nat) : Turned base top w (w.drewN q) := ⟨rfl, rfl, rfl, Nat.le_refl _, fun _ _ _ => rfl⟩
theorem ownsRow_of_block {w w' : World} {base : Nat} {e : TypeId} {size n : Nat} {v : Value} {xs : List Value} (h : w.ownsRow base e size v n xs) (hb : ∀ g, v.ownBlock = some g → w'.heap[g]? = w.heap[g]?) : w'.ownsRow base e size v n xs := by
  refine ⟨h.1, ?_⟩
  rcases h.2 with hn | ⟨g, cap, cur, rfl, hg, hh, rest⟩
  · exact .inl hn
  · exact .inr ⟨g, cap, cur, rfl, hg, by rw [hb g (by rfl)]; exact hh, rest⟩
section
variable {α : Type} {e : TypeId} {f : α → Value} {base top base' : Nat} {w w' : World} {v : Value} {xs : List α}
theorem OwR.turned (h : OwR e f w base' v xs) (ht : Turned base top w w') (hne : ∀ g, v.ownBlock = some g → g < base ∨ top ≤ g) : OwR e f w' base' v xs :=
  ⟨ownsRow_of_block h.1 fun g hg => ht.block g (h.lt g hg).2 (hne g hg), h.2⟩
end
theorem OwI.turned {base top base' : Nat} {w w' : World} {v : Value} {xs : List Int} (h : OwI w base' v xs) (ht : Turned base top w w') (hne : ∀ g, v.ownBlock = some g → g < base ∨ top ≤ g) : OwI w' base' v xs :=
  ⟨ownsRow_of_block h.1 fun g hg => ht.block g (h.lt g hg).2 (hne g hg), h.2⟩
section
variable {w w' : World} {base base' top top' : Nat} {v : Value} {xss : List (List Int)}
theorem RdSS.below (h : RdSS w v xss) (hb : Below w.heap.size w w') : RdSS w' v xss := by
  obtain ⟨A, c, rfl, h1, h2, h3⟩ := h
  refine ⟨A, c, rfl, h1, h2, fun h0 => ?_⟩
  obtain ⟨b, o, rfl, hlt, hc⟩ := h3 h0
  refine ⟨b, o, rfl, Nat.lt_of_lt_of_le hlt hb.size, fun k hk => ?_⟩
  obtain ⟨u, hu, hr⟩ := hc k hk
  exact ⟨u, (World.cell?_of_block (a := ⟨b, o + k, none⟩) (hb.block b hlt)).trans hu, hr.below hb⟩
theorem RdSS.at_ {A : Option Addr} {n c : Nat} (h : RdSS w (.slice A n c) xss) : 0 < xss.length → ∃ b o, A = some ⟨b, o, none⟩ ∧ b < w.heap.size ∧ ∀ k (_ : k < xss.length), ∃ u, w.cell? ⟨b, o + k, none⟩ = some u ∧ RdI w u xss[k] := by
  obtain ⟨A', c', e, h1, h2, h3⟩ := h
  injection e with e1 e2 e3
  subst e1
  exact h3
theorem OwSS.rd (h : OwSS w base top v xss) : RdSS w v xss := by
  obtain ⟨V, ho, hr, _⟩ := h
  obtain ⟨A, c, e, h1, h2, h3⟩ := ho.rd
  simp only [List.length_map, List.length_range] at e h1 h2 h3
  refine ⟨A, c, e, h1, h2, fun h0 => ?_⟩
  obtain ⟨b, o, e2, hlt, hc⟩ := h3 h0
  refine ⟨b, o, e2, hlt, fun k hk => ⟨V k, ?_, ?_⟩⟩
  · have := hc k hk
    simpa using this
  · have := (hr k hk).rd
    rwa [rowOf_get hk] at this
theorem OwSS.below (h : OwSS w base top v xss) (hb : Below w.heap.size w w') : OwSS w' base top v xss := by
  obtain ⟨V, ho, hr, h3⟩ := h
  exact ⟨V, ho.below hb, fun i hi => (hr i hi).below hb, h3⟩
theorem OwSS.turned {b' t' : Nat} (h : OwSS w base top v xss) (ht : Turned b' t' w w') (hne : top ≤ b' ∨ t' ≤ base) : OwSS w' base top v xss := by
  obtain ⟨V, ho, hr, h3, h4, h5⟩ := h
  refine ⟨V, ho.turned ht fun g hg => ?_, fun i hi => (hr i hi).turned ht fun g hg => ?_, h3, h4, h5⟩
  · have h6 := h4 g hg
    have := (ho.lt g hg).1
    rcases hne with h | h
    · left; omega
    · right; omega
  · have h6 := h5 i hi g hg
    have := ((hr i hi).lt g hg).1
    rcases hne with h | h
    · left; omega
    · right; omega
theorem OwSS.grown_row {u : Value} (h : OwSS w base top v xss) (hg : w.grownBy w' u.ownBlock) (hne : ∀ g, u.ownBlock = some g → g < base ∨ top ≤ g) : OwSS w' base top v xss := by
  rcases hu : u.ownBlock with _ | g
  · rw [hu] at hg; exact h.below (below_of_grown hg)
  · have ht : Turned g (g + 1) w w' := ⟨hg.os, hg.tape, hg.output, hg.size, fun k hk hne' => hg.block k hk (by rw [hu]; intro e; injection e with e; omega)⟩
    exact h.turned ht (by rcases hne g hu with h | h <;> omega)
theorem OwSS.nil_ (w : World) (base top : Nat) : OwSS w base top (.slice none 0 0) [] :=
  ⟨fun _ => .slice none 0 0, ⟨World.ownsRow_nil _ _ _ _, by simp⟩, (fun i hi => by simp at hi), (fun i j _ hj => by simp at hj), (fun g hg => by cases hg), (fun i hi => by simp at hi)⟩
end
/-- the function that gives u at k, else what V gives -/
def setF {α : Type} (V : Nat → α) (k : Nat) (u : α) (i : Nat) : α := if i = k then u else V i
theorem setF_same {α : Type} (V : Nat → α) (k : Nat) (u : α) : setF V k u k = u := by simp [setF]
theorem setF_ne {α : Type} (V : Nat → α) {i k : Nat} (u : α) (h : i ≠ k) : setF V k u i = V i := by simp [setF, h]
theorem map_range_set (V : Nat → Value) (n k : Nat) (u : Value) (h : k < n) : (List.range n).map (setF V k u) = ((List.range n).map V).set k u := by
  apply List.ext_getElem
  · simp
  · intro i h1 h2
    rw [List.getElem_set]
    simp only [List.getElem_map, List.getElem_range]
    by_cases e : i = k
    · subst e; simp [setF_same]
    · rw [setF_ne _ _ e, if_neg (fun h => e h.symm)]
theorem info_slice : (Try.prog.info? 38).map (fun i => (i.zero, i.size, i.bytes)) = some (some (id (Value.slice none 0 0)), 1, 24) := by kernel_rfl
set_option maxHeartbeats 400000 in
theorem toIntSS_any (v : Value) (xss : List (List Int)) (w : World) (hv : RdSS w v xss) :
    Calls Try.prog 19 #[v] w fun e w' => ∃ r, e = .returned r ∧ OwSS w' w.heap.size w'.heap.size r xss ∧ Below w.heap.size w w' := by
  have hv0 := hv
  obtain ⟨A, c, rfl, hc, hl, _⟩ := hv
  go_enter Try.func19, Try.ntmps19
  go_wp2_with (at_make; refine wpList_makeR (f := (id : Value → Value)) _ rfl _ _ 22 rfl 38 (.slice none 0 0) 24 Try.underlying22 info_slice rfl (by omega) _ _ _ _ xss.length rfl rfl rfl rfl (by omega) ?_)
  intro w1 hown hB0
  go_wp2_with fail
  go_loopw [4] (fun i wr => ∃ (k : Nat) (V : Nat → Value), k ≤ xss.length ∧ i = .int .i64 k ∧ OwR 38 id wr w.heap.size (.slice (some ⟨w.heap.size, 0, none⟩) xss.length xss.length) ((List.range xss.length).map V) ∧
      Hid ((∀ i, i < k → OwI wr w.heap.size (V i) (rowOf xss i)) ∧ (∀ i j, i < j → j < k → Apart (V i) (V j))) ∧ Below w.heap.size w wr) (fun i _ => xss.length - (intOf i).toNat)
  case atStart => exact ⟨0, fun _ => .slice none 0 0, by omega, rfl, by rw [show (List.range xss.length).map (fun _ => Value.slice none 0 0) = List.replicate xss.length (.slice none 0 0) from by apply List.ext_getElem <;> simp]; exact hown, ⟨fun i h => absurd h (by omega), fun i j _ h => absurd h (by omega)⟩, hB0⟩
  case round =>
    clear hown hB0
    obtain ⟨k, V, hk, rfl, hown, HV, hB⟩ := hrel
    by_cases hlt : k < xss.length
    · obtain ⟨b, o, rfl, hb, hcl⟩ := (hv0.below hB).at_ (by omega)
      obtain ⟨u, hu, hr⟩ := hcl k hlt
      clear hcl
      go_wp2_with fail
      refine (toIntS_any _ _ _ hr).mono ?_; rintro e w2 ⟨r, rfl, o2, b2⟩
      have hown2 := hown.below b2
      have d2 := hown2.cellAt k (by simp; omega)
      have d3 := hown2.frozenAt k
      have hB2 := below_then hB b2
      have hsz := hB.size
      have HS := Lib.hid (hown2.stored k r)
      have hsl : ∃ A n c, r = .slice A n c := by
        rcases o2.shape with ⟨e, _⟩ | ⟨g, cap, e, _⟩
        · exact ⟨_, _, _, e⟩
        · exact ⟨_, _, _, e⟩
      obtain ⟨rA, rn, rc, rfl⟩ := hsl
      go_wp2_with fail
      go_roundw
      case rel =>
        have hg : Turned w.heap.size (w.heap.size + 1) w2 (w2.setCell ⟨w.heap.size, k, none⟩ (.slice rA rn rc)) := ⟨rfl, rfl, rfl, by simp, fun j _ hj => Below.heap_setCell _ _ _ _ (by show j ≠ w.heap.size; omega)⟩
        refine ⟨k + 1, setF V k (.slice rA rn rc), by omega, by go_num, by rw [map_range_set _ _ _ _ hlt]; exact HS.out.1, ⟨fun i hi => ?_, fun i j hij hj => ?_⟩, hB2.setCell (Nat.le_refl _) _⟩
        · by_cases e : i = k
          · subst e
            rw [setF_same, rowOf_get hlt]
            refine (o2.mono hsz).turned hg fun g hg' => .inr ?_
            have h1 := (o2.lt g hg').1
            have h2 : w.heap.size < wr.heap.size := by
              rcases Nat.lt_or_ge w.heap.size wr.heap.size with h | h
              · exact h
              · have := hown.lt w.heap.size (by rfl); omega
            omega
          · rw [setF_ne _ _ e]
            refine ((HV.out.1 i (by omega)).below b2).turned hg fun g hg' => ?_
            have ho : Apart _ _ := OwR.apart_of_type (e := 3) (e' := 38) (HV.out.1 i (by omega)) hown (by decide)
            have : g ≠ w.heap.size := fun e => ho g hg' (by rw [e]; rfl)
            omega
        · by_cases ei : j = k
          · subst ei
            rw [setF_same, setF_ne _ _ (by omega)]
            intro g h1 h2
            have := ((HV.out.1 i (by omega)).lt g h1).2
            have := (o2.lt g h2).1
            omega
          · rw [setF_ne _ _ ei, setF_ne _ _ (by omega)]
            exact HV.out.2 i j hij (by omega)
      case measure => simp [intOf]; omega
    · have hke : k = xss.length := by omega
      go_wp2_with fail
      go_ret
      subst hke
      exact ⟨_, rfl, ⟨V, hown, HV.out.1, HV.out.2, fun g hg => (hown.lt g hg).2, fun i hi g hg => ((HV.out.1 i hi).lt g hg).2⟩, hB⟩
set_option maxHeartbeats 400000 in
theorem eqIntSS_any (a b : Value) (xss yss : List (List Int)) (w : World) (ha : RdSS w a xss) (hb : RdSS w b yss) (he : xss = yss) :
    Calls Try.prog 14 #[a, b] w fun e w' => e = .returned (.bool true) ∧ ∃ q, w' = w.drewN q := by
  subst he
  have ha0 := ha
  have hb0 := hb
  obtain ⟨A, c, rfl, hc, hl, hA⟩ := ha
  obtain ⟨B, d, rfl, hd, hm, hB⟩ := hb
  go_enter Try.func14, Try.ntmps14
  go_wp2_with fail
  go_loopw [5] (fun i wr => ∃ k : Nat, k ≤ xss.length ∧ i = .int .i64 k ∧ ∃ q, wr = w.drewN q) (fun i _ => xss.length - (intOf i).toNat)
  case atStart => exact ⟨0, by omega, rfl, 0, rfl⟩
  case round =>
    obtain ⟨k, hk, rfl, q, rfl⟩ := hrel
    by_cases hlt : k < xss.length
    · obtain ⟨b1, o1, rfl, _, h1⟩ := hA (by omega)
      obtain ⟨b2, o2, rfl, _, h2⟩ := hB (by omega)
      obtain ⟨u1, c1, r1⟩ := h1 k hlt
      obtain ⟨u2, c2, r2⟩ := h2 k hlt
      clear h1 h2 hA hB
      have HE : Hid (∀ n, Calls Try.prog 167 #[u1, u2] (w.drewN n) fun e w' => e = .returned (.bool true) ∧ ∃ m, w' = (w.drewN n).drewN m) := fun n => (eqIntS_any _ _ _ _ _ (r1.drewN n) (r2.drewN n)).mono fun e w' h => ⟨by rw [h.1]; simp, h.2⟩
      go_wp2_with fail
      go_quiet ((go_at_call 167; go_simp; exact quiet_add_draws (HE.out _)))
      go_wp2_with fail
      go_roundw
      case rel => exact ⟨k + 1, by omega, by go_num, _, rfl⟩
      case measure => simp [intOf]; omega
    · go_wp2_with fail
      go_ret
      exact ⟨rfl, q, rfl⟩
/-- a slice of slices of numbers that came in: rows as they came -/
def ArgSS (w : World) (v : Value) (xss : List (List Int)) : Prop :=
  ∃ A c, v = .slice A xss.length c ∧ xss.length ≤ c ∧ xss.length ≤ 9223372036854775807 ∧
    (0 < xss.length → ∃ b o, A = some ⟨b, o, none⟩ ∧ b < w.heap.size ∧ ∀ k (_ : k < xss.length), ∃ u A' c', w.cell? ⟨b, o + k, none⟩ = some u ∧ u = .slice A' xss[k].length c' ∧ xss[k].length ≤ 9223372036854775807 ∧ (xss[k].length ≤ 1099511627776 → RdI w u xss[k]) ∧ ∀ x ∈ xss[k], I64 x)
/-- how many values there are in the first k rows, the rows counted too -/
def tot (xss : List (List Int)) (k : Nat) : Nat := xss.length + sumTo k (fun i => (rowOf xss i).length)
theorem tot_succ (xss : List (List Int)) (k : Nat) : tot xss (k + 1) = tot xss k + (rowOf xss k).length := by simp [tot, sumTo_succ, Nat.add_assoc]
theorem tot_mono (xss : List (List Int)) {j k : Nat} (h : j ≤ k) : tot xss j ≤ tot xss k := by
  induction k with
  | zero => rw [show j = 0 from by omega]; exact Nat.le_refl _
  | succ k ih =>
    rcases Nat.lt_or_ge j (k + 1) with h1 | h1
    · rw [tot_succ]; have := ih (by omega); omega
    · rw [show j = k + 1 from by omega]; exact Nat.le_refl _
theorem ArgSS.rd {w : World} {v : Value} {xss : List (List Int)} (h : ArgSS w v xss) (ht : tot xss xss.length ≤ 1048576) : RdSS w v xss := by
  obtain ⟨A, c, rfl, h1, h2, h3⟩ := h
  have hn : xss.length ≤ 1048576 := Nat.le_trans (Nat.le_add_right _ _) ht
  refine ⟨A, c, rfl, h1, by omega, fun h0 => ?_⟩
  obtain ⟨b, o, rfl, hlt, hc⟩ := h3 h0
  refine ⟨b, o, rfl, hlt, fun k hk => ?_⟩
  obtain ⟨u, A', c', hu, _, _, hr, _⟩ := hc k hk
  have h4 := tot_mono xss (show k + 1 ≤ xss.length from hk)
  rw [tot_succ, rowOf_get hk] at h4
  exact ⟨u, hu, hr (by omega)⟩
theorem szIntS_any (A : Option Addr) (n c : Nat) (left : Int) (w : World) (hn : n ≤ 9223372036854775807) (h0 : 0 ≤ left) (h1 : left ≤ 1048576) :
    Calls Try.prog 170 #[.slice A n c, .int .i64 left] w fun e w' => e = .returned (.int .i64 (if (n : Int) ≤ left then left - n else -1)) ∧ w = w' := by
  by_cases hle : (n : Int) ≤ left
  · rw [if_pos hle]
    have h2 : ¬ left - (n : Int) < 0 := by omega
    go_enter Try.func170, Try.ntmps170
    go_wp2_with fail
    go_ret
    exact ⟨rfl, rfl⟩
  · rw [if_neg hle]
    have h2 : left - (n : Int) < 0 := by omega
    go_enter Try.func170, Try.ntmps170
    go_wp2_with fail
    go_ret
    exact ⟨rfl, rfl⟩
def szV (xss : List (List Int)) : Int := if tot xss xss.length ≤ 1048576 then 1048576 - ((tot xss xss.length : Nat) : Int) else -1
theorem szV_yes {xss : List (List Int)} {t : Nat} (h : tot xss xss.length = t) (ht : t ≤ 1048576) : szV xss = 1048576 - (t : Int) := by unfold szV; rw [h, if_pos ht]
theorem szV_no {xss : List (List Int)} (h : ¬ tot xss xss.length ≤ 1048576) : szV xss = -1 := by unfold szV; rw [if_neg h]
set_option maxHeartbeats 400000 in
theorem szIntSS_any (v : Value) (xss : List (List Int)) (w : World) (hv : ArgSS w v xss) :
    Calls Try.prog 17 #[v, .int .i64 1048576] w fun e w' => e = .returned (.int .i64 (szV xss)) ∧ w = w' := by
  obtain ⟨A, c, rfl, hc, hl, hA⟩ := hv
  by_cases h0 : xss.length ≤ 1048576
  · have h0' : ¬ (1048576 : Int) - (xss.length : Int) < 0 := by omega
    go_enter Try.func17, Try.ntmps17
    go_wp2_with fail
    go_loop [1, 5] (fun l i => ∃ k t : Nat, k ≤ xss.length ∧ i = .int .i64 k ∧ l = .int .i64 (1048576 - (t : Int)) ∧ t ≤ 1048576 ∧ Hid (tot xss k = t)) (fun _ i => xss.length - (intOf i).toNat)
    case atStart => exact ⟨0, xss.length, by omega, rfl, rfl, h0, rfl⟩
    case round =>
      obtain ⟨k, t, hk, rfl, rfl, ht, HT⟩ := hrel
      by_cases hlt : k < xss.length
      · obtain ⟨b, o, rfl, _, hcl⟩ := hA (by omega)
        obtain ⟨u, A', c', hu, rfl, hrl, _, _⟩ := hcl k hlt
        have HR := Lib.hid (show tot xss (k + 1) = t + xss[k].length by rw [tot_succ, HT.out, rowOf_get hlt])
        clear hcl hA
        by_cases hle : (xss[k].length : Int) ≤ 1048576 - (t : Int)
        · have hn : ¬ 1048576 - (t : Int) - (xss[k].length : Int) < 0 := by omega
          go_wp2_with (go_at_call 170; refine (szIntS_any _ _ _ _ _ hrl (by omega) (by omega)).mono ?_; rw [if_pos hle]; rintro e w' ⟨rfl, rfl⟩)
          go_round
          case rel => exact ⟨k + 1, t + xss[k].length, by omega, by go_num, by go_num, by omega, HR.out⟩
          case measure => simp [intOf]; omega
        · have HB := Lib.hid (show ¬ tot xss xss.length ≤ 1048576 by
            have := tot_mono xss (show k + 1 ≤ xss.length from hlt)
            rw [HR.out] at this
            omega)
          go_wp2_with (go_at_call 170; refine (szIntS_any _ _ _ _ _ hrl (by omega) (by omega)).mono ?_; rw [if_neg hle]; rintro e w' ⟨rfl, rfl⟩)
          go_ret
          exact ⟨ret_int (by rw [szV_no HB.out]), rfl⟩
      · have hke : k = xss.length := by omega
        have HB := Lib.hid (show tot xss xss.length = t by rw [← hke]; exact HT.out)
        go_wp2_with fail
        go_ret
        exact ⟨ret_int (by rw [szV_yes HB.out ht]), rfl⟩
  · have h0' : (1048576 : Int) - (xss.length : Int) < 0 := by omega
    have HB := Lib.hid (show ¬ tot xss xss.length ≤ 1048576 by
      have : xss.length ≤ tot xss xss.length := Nat.le_add_right _ _
      omega)
    go_enter Try.func17, Try.ntmps17
    go_wp2_with fail
    go_ret
    exact ⟨ret_int (by rw [szV_no HB.out]), rfl⟩
end Go.Proofs.Ytnkkgfeegaiakaa
