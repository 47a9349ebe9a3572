/- Contracts of SortParking, the program's and the reference's: both return the same slice and bool. No condition. -/
import Derived.Test.YtnkkgfeegaiakaaPark
import Derived.Test.YtnkkgfeegaiakaaAppN
import Derived.Test.YtnkkgfeegaiakaaSortInts
namespace Go.Proofs.Ytnkkgfeegaiakaa
open Go.RowKit
def spR (f : List Int) : List Int × Bool := if (placesR f).2 = true then (srtS f f.length, true) else ([], false)
theorem park_len {f : List Int} (h : (placesR f).2 = true) : f.length ≤ 6 := by
  unfold placesR at h
  by_cases hc : CarsP f
  · exact hc.1
  · rw [if_neg hc] at h; cases h
/-- 'append(s, x...)' as a step of a region that draws -/
theorem step_appRow {P : Program} {f : Int → Value} (wr : World) {ops : Array Oper} {o : Oper} {a : Act} {K : Act → World → Prop} {Q : Exit → Act → World → Prop} {E : Prop} (hgd : o.guard = none) (s x : Operand) (t : TypeId)
    (ho : o.op = .call { callee := .builtin .append, args := #[s, x], argTypes := #[t, t] })
    (base : Nat) (e : TypeId) (z : Value) (bytes : Nat) (ht : P.underlying t = some (.slice e)) (hi : (P.info? e).map (fun i => (i.zero, i.size, i.bytes)) = some (some z, 1, bytes)) (hzs : z.cells.size = 1) (hb : bytes ≤ 64)
    (v : Value) (xs ys : List Int) (hs : a.eval s = v) (hown : OwR e f wr base v xs) (A : Option Addr) (c : Nat) (hx : a.eval x = .slice A ys.length c) (hrd : RdR f wr (.slice A ys.length c) ys)
    (hX : ∀ y, (f y).oneCell' = true) (hlen : xs.length + ys.length ≤ 1099511627776) (hbase : base ≤ wr.heap.size)
    (h : ∀ v' w', OwR e f w' base v' (xs ++ ys) → wr.grownBy w' v.ownBlock → (v'.ownBlock = v.ownBlock ∨ v'.ownBlock = some wr.heap.size) → K (a.put o.dst v') w') :
    if Region.wanted o (yielded ops a.tmps) = true then Oper.wp P o a wr K Q else E := by
  have hw : Region.wanted o (yielded ops a.tmps) = true := by simp [Region.wanted, hgd]
  rw [if_pos hw]
  exact wp_appRow wr s x t ho base e z bytes ht hi hzs hb v xs ys hs hown A c hx hrd hX hlen hbase h
theorem OwI.shape_pos' {w : World} {base : Nat} {v : Value} {xs : List Int} (h : OwI w base v xs) (h0 : 0 < xs.length) : ∃ g cap, v = .slice (some ⟨g, 0, none⟩) xs.length cap ∧ base ≤ g ∧ g < w.heap.size := by
  rcases h.shape with ⟨_, e⟩ | ⟨g, cap, e, h1, h2⟩
  · rw [e] at h0; simp at h0
  · exact ⟨g, cap, e, h1, h2⟩
theorem RdI.empty_ (w : World) (A : Option Addr) (c : Nat) : RdI w (.slice A 0 c) [] := ⟨A, c, rfl, Nat.zero_le _, by simp, fun h => by simp at h⟩
theorem RdI.take_ {w : World} {A : Option Addr} {n c : Nat} {xs : List Int} (h : RdI w (.slice A n c) xs) (k : Nat) (hk : k ≤ xs.length) : RdI w (.slice A k c) (xs.take k) := by
  obtain ⟨A', c', e, h1, h2, h3⟩ := h
  injection e with e1 e2 e3
  subst e1; subst e3
  have hl : (xs.take k).length = k := by simp; omega
  refine ⟨_, _, by rw [hl], by omega, by omega, fun h0 => ?_⟩
  obtain ⟨b, o, e, hb, hc⟩ := h3 (by omega)
  refine ⟨b, o, e, hb, fun j hj => ?_⟩
  rw [hc j (by omega)]; simp
theorem RdI.drop_ {w : World} {b o n c : Nat} {xs : List Int} (h : RdI w (.slice (some ⟨b, o, none⟩) n c) xs) (k : Nat) (hk : k ≤ xs.length) : RdI w (.slice (some ⟨b, o + k, none⟩) (xs.length - k) (c - k)) (xs.drop k) := by
  obtain ⟨A', c', e, h1, h2, h3⟩ := h
  injection e with e1 e2 e3
  subst e1; subst e3
  have hl : (xs.drop k).length = xs.length - k := by simp
  refine ⟨_, _, by rw [hl], by omega, by omega, fun h0 => ?_⟩
  obtain ⟨b', o', e, hb, hc⟩ := h3 (by omega)
  injection e with e
  injection e with e1 e2
  subst e1; subst e2
  refine ⟨_, _, rfl, hb, fun j hj => ?_⟩
  have := hc (k + j) (by omega)
  rw [Nat.add_assoc, this]; simp
theorem implSortParking_any (v : Value) (f : List Int) (w : World) (hv : RdI w v f) :
    Calls Try.prog 129 #[v] w (RetIB w (spR f)) := by
  have hv0 := hv
  have HP0 := implIsParking_any _ _ _ hv0
  obtain ⟨A, c, rfl, hc, hl, _⟩ := hv
  by_cases hT : (placesR f).2 = true
  · have h6 := park_len hT
    have HV := Lib.hid (show spR f = (srt f f.length, true) by unfold spR; rw [if_pos hT, srt_all])
    rw [hT] at HP0
    clear hT
    go_enter Try.func129, Try.ntmps129
    go_wp2_with fail
    refine HP0.mono ?_; rintro e w1 ⟨rfl, b1⟩
    go_wp2_with fail
    refine (copyInts_any _ _ _ (hv0.below b1)).mono ?_; rintro e w2 ⟨r, rfl, o2, b2⟩
    have B2 := below_then b1 b2
    have o2 := o2.mono b1.size
    rcases Nat.eq_zero_or_pos f.length with h0 | h0
    · have hf : f = [] := List.eq_nil_of_length_eq_zero h0
      subst hf
      obtain ⟨rA, rc, rfl, _⟩ := id o2.rd
      go_wp2_with fail
      refine (sort0_any _ _ _).mono ?_; rintro e w3 ⟨rfl, rfl⟩
      go_wp2_with fail
      go_ret2
      exact RetIB.mk HV.out o2 B2
    · rcases o2.shape with ⟨_, e⟩ | ⟨g, cap, rfl, hg, _⟩
      · rw [e] at h0; simp at h0
      · go_wp2_with fail
        refine (sortInts_any g cap f _ _ o2 (by omega)).mono ?_; rintro e w3 ⟨rfl, o3, g3⟩
        have B3 := B2.grown g3 B2.size (fun k hk => by injection hk with hk; omega)
        have o3 : OwI w3 w.heap.size (.slice (some ⟨g, 0, none⟩) f.length cap) (srt f f.length) := o3
        go_wp2_with fail
        go_ret2
        exact RetIB.mk HV.out o3 B3
  · have hF : (placesR f).2 = false := by simpa using hT
    have HV := Lib.hid (show spR f = ([], false) by unfold spR; rw [if_neg hT])
    rw [hF] at HP0
    clear hT hF
    go_enter Try.func129, Try.ntmps129
    go_wp2_with fail
    refine HP0.mono ?_; rintro e w1 ⟨rfl, b1⟩
    go_wp2_with fail
    go_ret2
    exact RetIB.mk HV.out (OwI.empty_ _ _ b1.size) (b1.alloc b1.size _)
set_option maxHeartbeats 10000000 in
theorem specSortParking_any (v : Value) (f : List Int) (w : World) (hv : RdI w v f) :
    Calls Try.prog 140 #[v] w (RetIB w (spR f)) := by
  have hv0 := hv
  have HP0 : ∀ wq, Below w.heap.size w wq → Calls Try.prog 219 #[v] wq fun e w' => e = .returned (.bool (placesR f).2) ∧ Below wq.heap.size wq w' := fun wq hq => specIsParking_any _ _ _ (hv0.below hq)
  obtain ⟨A, c, rfl, hc, hl, _⟩ := hv
  by_cases hT : (placesR f).2 = true
  · have h6 := park_len hT
    have HV := Lib.hid (show spR f = (srtS f f.length, true) by unfold spR; rw [if_pos hT])
    rw [hT] at HP0
    have HP := Lib.hid HP0
    clear hT HP0
    go_enter Try.func140, Try.ntmps140
    go_wp2_with fail
    have own0 := OwI.empty_ w w.heap.size (Nat.le_refl _)
    have hB0 : Below w.heap.size w (w.alloc (.cells #[] 3)) := (Below.refl _ _).alloc (Nat.le_refl _) _
    obtain ⟨V0, hV0⟩ : ∃ V0 : Value, V0 = .slice (some ⟨w.heap.size, 0, none⟩) 0 0 := ⟨_, rfl⟩
    generalize w.alloc (.cells #[] 3) = w0 at own0 hB0 ⊢
    go_loopw [4, 5] (fun x i wr => ∃ k : Nat, k ≤ f.length ∧ i = .int .i64 (k : Int) ∧ OwI wr w.heap.size x (srtS f k) ∧ (∃ g cap, x = .slice (some ⟨g, 0, none⟩) k cap) ∧ Below w.heap.size w wr) (fun _ i _ => f.length - (intOf i).toNat)
    case atStart => exact ⟨0, by omega, rfl, own0, ⟨_, _, rfl⟩, hB0⟩
    case round =>
      clear own0 hB0
      obtain ⟨k, hk, rfl, hown, ⟨g, cap, rfl⟩, hB⟩ := hrel
      by_cases hlt : k < f.length
      · have hsl := srtS_len f k
        have HSS := Lib.hid (srtS_succ f k)
        rw [getD_of hlt] at HSS
        obtain ⟨fb, fo, rfl, hfb, hfc⟩ := hv0.at_ (by omega)
        have HFC := Lib.hid (fun wq (hq : Below w.heap.size w wq) => (hq.cell (p := ⟨fb, fo + k, none⟩) hfb).trans (hfc k hlt))
        clear hfc
        go_wp2_with (go_at_call 219; refine (HP.out _ hB).mono ?_; rintro e w1 ⟨rfl, b1⟩)
        have hB1 := below_then hB b1
        have hown1 := hown.below b1
        clear hown hB b1
        generalize f[k] = X at *
        have HOUT := Lib.hid (rfl : srtS f k = srtS f k)
        generalize hO : srtS f k = out at *
        have HO := Lib.hid hO
        clear hO HOUT
        have hrd1 := hown1.rd
        have hcap : k ≤ cap := by
          obtain ⟨_, _, e, h1, _⟩ := hrd1
          injection e with e1 e2 e3
          omega
        go_loopw [6] (fun v w2 => ∃ j : Nat, j ≤ k ∧ v = .int .i64 (j : Int) ∧ Hid (pos out X j = pos out X k) ∧ ∃ q, w2 = w1.drewN q) (fun v _ => (intOf v).toNat)
        case atStart => exact ⟨k, Nat.le_refl _, rfl, rfl, 0, rfl⟩
        case round =>
          obtain ⟨j, hj, rfl, HJ, q, rfl⟩ := hrel
          have hfx := HFC.out w1 hB1
          rcases j with _ | m
          · obtain ⟨J, hJ⟩ : ∃ J : Int, J = ((0 : Nat) : Int) := ⟨_, rfl⟩
            have HPS := Lib.hid (show pos out X k = 0 from HJ.out.symm)
            rw [← hJ]
            have HJJ := Lib.hid hJ
            have d0 : decide ((0 : Int) < J) = false := decide_eq_false (by omega)
            clear hJ
            go_wp2_with fail
            go_quiet (fail)
            obtain ⟨P, hP⟩ : ∃ P : Nat, P = 0 := ⟨_, rfl⟩
            rw [show J = (P : Int) by rw [HJJ.out, hP]]
            have HPS := Lib.hid (HPS.out.trans hP.symm)
            clear HJJ d0 HJ hP
            have hPk : P ≤ k := by have := pos_le out X k; have := HPS.out; omega
            have HSP := Lib.hid (show srtS f (k + 1) = out.take P ++ [X] ++ out.drop P by
              rw [HSS.out]; unfold insS; rw [hsl, HPS.out, List.append_assoc]; rfl)
            have hownD := (hown1.drewN q).drewN nq
            have hBD := below_drewN (below_drewN hB1 q) nq
            generalize World.drewN (World.drewN w1 q) nq = wd at *
            clear hown1 hB1 hrd1 hfx HPS
            have hPc : P ≤ cap := by omega
            have hbs := hBD.size
            obtain ⟨T, hT⟩ : ∃ T, T = out.take P := ⟨_, rfl⟩
            obtain ⟨D, hD⟩ : ∃ D, D = out.drop P := ⟨_, rfl⟩
            have hTl : T.length = P := by rw [hT, List.length_take]; omega
            have hDl : D.length = k - P := by rw [hD, List.length_drop]; omega
            have hrdD := hownD.rd
            have hrdT : RdI wd (.slice (some ⟨g, 0, none⟩) T.length cap) T := by rw [hTl, hT]; exact hrdD.take_ P (by omega)
            rw [← hT, ← hD] at HSP
            have HRX : Hid (P < cap → RdI wd (.slice (some ⟨g, P, none⟩) D.length (cap - P)) D) := fun _ => by
              have := hrdD.drop_ P (by omega)
              rw [Nat.zero_add, hsl, ← hD] at this
              rw [hDl]; exact this
            have hfx := HFC.out wd hBD
            have B1 : Below wd.heap.size wd (wd.drew.alloc (.cells #[] 3)) := (below_draws wd 1).alloc (Nat.le_refl _) _
            have s1 : (wd.drew.alloc (.cells #[] 3)).heap.size = wd.heap.size + 1 := by simp
            have B2 : Below wd.heap.size wd ((wd.drew.alloc (.cells #[] 3)).alloc (.cells #[.int .i64 X] 3)) := B1.alloc B1.size _
            have BV : Below wd.heap.size wd (wd.drew.alloc (.cells #[.int .i64 X] 3)) := (below_draws wd 1).alloc (Nat.le_refl _) _
            have sV : (wd.drew.alloc (.cells #[.int .i64 X] 3)).heap.size = wd.heap.size + 1 := by simp
            have B3 : Below wd.heap.size wd ((wd.drew.alloc (.cells #[.int .i64 X] 3)).alloc (.cells #[] 3)) := BV.alloc BV.size _
            have own1 : OwI (wd.drew.alloc (.cells #[] 3)) w.heap.size (.slice (some ⟨wd.heap.size, 0, none⟩) 0 0) [] := OwI.empty_ wd.drew w.heap.size hbs
            have own2 : OwI ((wd.drew.alloc (.cells #[] 3)).alloc (.cells #[.int .i64 X] 3)) w.heap.size (.slice (some ⟨wd.heap.size, 0, none⟩) 0 0) [] := own1.below ((Below.refl _ _).alloc (Nat.le_refl _) _)
            have x2 : OwI ((wd.drew.alloc (.cells #[] 3)).alloc (.cells #[.int .i64 X] 3)) w.heap.size (.slice (some ⟨wd.heap.size + 1, 0, none⟩) 1 1) [X] := by
              have := OwI.one (wd.drew.alloc (.cells #[] 3)) X w.heap.size (by omega)
              rw [s1] at this; exact this
            have own3 : OwI ((wd.drew.alloc (.cells #[.int .i64 X] 3)).alloc (.cells #[] 3)) w.heap.size (.slice (some ⟨wd.heap.size + 1, 0, none⟩) 0 0) [] := by
              have := OwI.empty_ (wd.drew.alloc (.cells #[.int .i64 X] 3)) w.heap.size (by omega)
              rw [sV] at this; exact this
            have x3 : OwI ((wd.drew.alloc (.cells #[.int .i64 X] 3)).alloc (.cells #[] 3)) w.heap.size (.slice (some ⟨wd.heap.size, 0, none⟩) 1 1) [X] := (OwI.one wd.drew X w.heap.size hbs).below ((Below.refl _ _).alloc (Nat.le_refl _) _)
            have hl0 : ([] : List Int).length + T.length ≤ 1099511627776 := by rw [hTl]; simp; omega
            have hl2 : T.length + [X].length ≤ 1099511627776 := by rw [hTl]; simp; omega
            have hl3 : T.length < 1099511627776 := by omega
            have hl4 : (T ++ [X]).length + D.length ≤ 1099511627776 := by rw [List.length_append, hTl, hDl]; simp; omega
            have hx1 := HFC.out _ (below_then hBD B1)
            have hx1b := HFC.out (wd.alloc (.cells #[] 3)) (below_then hBD ((Below.refl _ _).alloc (Nat.le_refl _) _))
            have HBD := Lib.hid hBD
            have ap2 : Apart (.slice (some ⟨wd.heap.size + 1, 0, none⟩) 1 1) (.slice (some ⟨wd.heap.size, 0, none⟩) 0 0) := fun g h1 h2 => by simp [Value.ownBlock] at h1 h2; omega
            have ap3 : Apart (.slice (some ⟨wd.heap.size, 0, none⟩) 1 1) (.slice (some ⟨wd.heap.size + 1, 0, none⟩) 0 0) := fun g h1 h2 => by simp [Value.ownBlock] at h1 h2; omega
            have AP2 := Lib.hid ap2
            have AP3 := Lib.hid ap3
            have HS1 := Lib.hid s1
            have t1 := hrdT.below B1
            have t2 := hrdT.below B2
            have t3 := hrdT.below B3
            have b1 : w.heap.size ≤ (wd.drew.alloc (.cells #[] 3)).heap.size := by omega
            have b2 : w.heap.size ≤ ((wd.drew.alloc (.cells #[] 3)).alloc (.cells #[.int .i64 X] 3)).heap.size := Nat.le_trans hbs B2.size
            have b3 : w.heap.size ≤ ((wd.drew.alloc (.cells #[.int .i64 X] 3)).alloc (.cells #[] 3)).heap.size := Nat.le_trans hbs B3.size
            have HDD := Lib.hid hDl
            have HLen := Lib.hid (show (T ++ [X] ++ D).length = k + 1 by rw [List.length_append, List.length_append, hTl, hDl]; simp; omega)
            clear hT hD hrdD hownD ap2 ap3 s1 sV hrdT hBD hDl
            rcases Nat.lt_or_ge P cap with hPlt | hPge
            · have HDX := Lib.hid (HRX.out hPlt)
              go_wp2_with fail
              go_region_law (first
                | refine step_appRow (f := Value.int .i64) (wd.drew.alloc (.cells #[] 3)) rfl (.tmp 36) (.tmp 39) 38 rfl w.heap.size 3 (.int .i64 0) 8 Try.underlying38 info_int rfl (by omega) (.slice (some ⟨wd.heap.size, 0, none⟩) 0 0) [] T (by simp [Act.eval, Act.put]) own1 (some ⟨g, 0, none⟩) cap (by simp [Act.eval, Act.put, hTl]) t1 (fun _ => rfl) hl0 b1 ?_
                  intro v1 w3 o3 g3 a3
                  have o3 : OwI w3 w.heap.size v1 T := o3
                  have q3 : Below wd.heap.size wd w3 := B1.grown g3 B1.size (fun i hi => by simp [Value.ownBlock] at hi; omega)
                  have z3 : w.heap.size ≤ w3.heap.size := Nat.le_trans hbs q3.size
                  have n3 : ∀ i, v1.ownBlock = some i → wd.heap.size ≤ i := fun i hi => by
                    rcases a3 with e | e
                    · rw [e] at hi; simp [Value.ownBlock] at hi; omega
                    · rw [e] at hi; simp at hi; omega
                  have f3 := HFC.out w3 (below_then HBD.out q3)
                  clear g3 a3
                | refine step_appRow (f := Value.int .i64) ((wd.drew.alloc (.cells #[] 3)).alloc (.cells #[.int .i64 X] 3)) rfl (.tmp 36) (.tmp 39) 38 rfl w.heap.size 3 (.int .i64 0) 8 Try.underlying38 info_int rfl (by omega) (.slice (some ⟨wd.heap.size, 0, none⟩) 0 0) [] T (by simp [Act.eval, Act.put]) own2 (some ⟨g, 0, none⟩) cap (by simp [Act.eval, Act.put, hTl]) t2 (fun _ => rfl) hl0 b2 ?_
                  intro v1 w3 o3 g3 a3
                  have o3 : OwI w3 w.heap.size v1 T := o3
                  have q3 : Below wd.heap.size wd w3 := B2.grown g3 B2.size (fun i hi => by simp [Value.ownBlock] at hi; omega)
                  have z3 : w.heap.size ≤ w3.heap.size := Nat.le_trans hbs q3.size
                  have n3 : ∀ i, v1.ownBlock = some i → wd.heap.size ≤ i := fun i hi => by
                    rcases a3 with e | e
                    · rw [e] at hi; simp [Value.ownBlock] at hi; omega
                    · rw [e] at hi; simp at hi; omega
                  have x4 := (OwR.other (u := .slice (some ⟨wd.heap.size, 0, none⟩) 0 0) (OwI_is.1 x2) g3 AP2.out).rd
                  clear g3 a3
                | refine step_appRow (f := Value.int .i64) ((wd.drew.alloc (.cells #[.int .i64 X] 3)).alloc (.cells #[] 3)) rfl (.tmp 36) (.tmp 39) 38 rfl w.heap.size 3 (.int .i64 0) 8 Try.underlying38 info_int rfl (by omega) (.slice (some ⟨wd.heap.size + 1, 0, none⟩) 0 0) [] T (by simp [Act.eval, Act.put]) own3 (some ⟨g, 0, none⟩) cap (by simp [Act.eval, Act.put, hTl]) t3 (fun _ => rfl) hl0 b3 ?_
                  intro v1 w3 o3 g3 a3
                  have o3 : OwI w3 w.heap.size v1 T := o3
                  have q3 : Below wd.heap.size wd w3 := B3.grown g3 B3.size (fun i hi => by simp [Value.ownBlock] at hi; omega)
                  have z3 : w.heap.size ≤ w3.heap.size := Nat.le_trans hbs q3.size
                  have n3 : ∀ i, v1.ownBlock = some i → wd.heap.size ≤ i := fun i hi => by
                    rcases a3 with e | e
                    · rw [e] at hi; simp [Value.ownBlock] at hi; omega
                    · rw [e] at hi; simp at hi; omega
                  have x4 := (OwR.other (u := .slice (some ⟨wd.heap.size + 1, 0, none⟩) 0 0) (OwI_is.1 x3) g3 AP3.out).rd
                  clear g3 a3
                | refine step_appI w3 rfl (.tmp 40) (.tmp 45) rfl w.heap.size v1 T (by simp [Act.eval, Act.put]) o3 X (m := w3.heap.size) (by simp [Act.eval, Act.put]) rfl hl3 z3 ?_
                  intro v2 w4 o4 g4 a4
                  have q4 : Below wd.heap.size wd w4 := q3.grown g4 q3.size n3
                  have z4 : w.heap.size ≤ w4.heap.size := Nat.le_trans hbs q4.size
                  have d4 := HDX.out.below q4
                  have n4 : ∀ i, v2.ownBlock = some i → wd.heap.size ≤ i := fun i hi => by
                    rcases a4.1 with e | e
                    · rw [e] at hi; exact n3 i hi
                    · rw [e] at hi; have := q3.size; simp at hi; omega
                  clear g4 a4
                | refine step_appRow (f := Value.int .i64) w3 rfl (.tmp 40) (.tmp 45) 38 rfl w.heap.size 3 (.int .i64 0) 8 Try.underlying38 info_int rfl (by omega) v1 T [X] (by simp [Act.eval, Act.put]) o3 (some ⟨wd.heap.size + 1, 0, none⟩) 1 (by simp [Act.eval, Act.put]) x4 (fun _ => rfl) hl2 z3 ?_
                  intro v2 w4 o4 g4 a4
                  have o4 : OwI w4 w.heap.size v2 (T ++ [X]) := o4
                  have q4 : Below wd.heap.size wd w4 := q3.grown g4 q3.size n3
                  have z4 : w.heap.size ≤ w4.heap.size := Nat.le_trans hbs q4.size
                  have d4 := HDX.out.below q4
                  have n4 : ∀ i, v2.ownBlock = some i → wd.heap.size ≤ i := fun i hi => by
                    rcases a4 with e | e
                    · rw [e] at hi; exact n3 i hi
                    · rw [e] at hi; have := q3.size; simp at hi; omega
                  clear g4 a4
                | refine step_appRow (f := Value.int .i64) w3 rfl (.tmp 40) (.tmp 45) 38 rfl w.heap.size 3 (.int .i64 0) 8 Try.underlying38 info_int rfl (by omega) v1 T [X] (by simp [Act.eval, Act.put]) o3 (some ⟨wd.heap.size, 0, none⟩) 1 (by simp [Act.eval, Act.put]) x4 (fun _ => rfl) hl2 z3 ?_
                  intro v2 w4 o4 g4 a4
                  have o4 : OwI w4 w.heap.size v2 (T ++ [X]) := o4
                  have q4 : Below wd.heap.size wd w4 := q3.grown g4 q3.size n3
                  have z4 : w.heap.size ≤ w4.heap.size := Nat.le_trans hbs q4.size
                  have d4 := HDX.out.below q4
                  have n4 : ∀ i, v2.ownBlock = some i → wd.heap.size ≤ i := fun i hi => by
                    rcases a4 with e | e
                    · rw [e] at hi; exact n3 i hi
                    · rw [e] at hi; have := q3.size; simp at hi; omega
                  clear g4 a4
                | refine step_appRow (f := Value.int .i64) w4 rfl (.tmp 46) (.tmp 49) 38 rfl w.heap.size 3 (.int .i64 0) 8 Try.underlying38 info_int rfl (by omega) v2 (T ++ [X]) D (by simp [Act.eval, Act.put]) o4 (some ⟨g, P, none⟩) (cap - P) (by simp [Act.eval, Act.put, HDD.out]; intros; omega) d4 (fun _ => rfl) hl4 z4 ?_
                  intro v3 w5 o5 g5 a5
                  have o5 : OwI w5 w.heap.size v3 (T ++ [X] ++ D) := o5
                  have q5 : Below wd.heap.size wd w5 := q4.grown g5 q4.size n4
                  obtain ⟨g6, cap6, rfl, _, _⟩ := o5.shape_pos' (by simp; try omega)
                  rw [HLen.out] at o5
                  rw [HLen.out]
                  clear g5 a5)
              all_goals (
                go_wp2_with fail
                go_roundw
                case rel => exact ⟨k + 1, by omega, by go_num, by rw [HSP.out]; exact o5, ⟨_, _, rfl⟩, below_then HBD.out q5⟩
                case measure => simp [intOf]; omega)
            · have hPe : P = cap := by omega
              have hD0 : D = [] := List.eq_nil_of_length_eq_zero (by have := HDD.out; omega)
              subst hD0
              subst hPe
              clear HRX hPge
              go_wp2_with fail
              go_region_law (first
                | refine step_appRow (f := Value.int .i64) (wd.drew.alloc (.cells #[] 3)) rfl (.tmp 36) (.tmp 39) 38 rfl w.heap.size 3 (.int .i64 0) 8 Try.underlying38 info_int rfl (by omega) (.slice (some ⟨wd.heap.size, 0, none⟩) 0 0) [] T (by simp [Act.eval, Act.put]) own1 (some ⟨g, 0, none⟩) P (by simp [Act.eval, Act.put, hTl]) t1 (fun _ => rfl) hl0 b1 ?_
                  intro v1 w3 o3 g3 a3
                  have o3 : OwI w3 w.heap.size v1 T := o3
                  have q3 : Below wd.heap.size wd w3 := B1.grown g3 B1.size (fun i hi => by simp [Value.ownBlock] at hi; omega)
                  have z3 : w.heap.size ≤ w3.heap.size := Nat.le_trans hbs q3.size
                  have n3 : ∀ i, v1.ownBlock = some i → wd.heap.size ≤ i := fun i hi => by
                    rcases a3 with e | e
                    · rw [e] at hi; simp [Value.ownBlock] at hi; omega
                    · rw [e] at hi; simp at hi; omega
                  have f3 := HFC.out w3 (below_then HBD.out q3)
                  clear g3 a3
                | refine step_appRow (f := Value.int .i64) ((wd.drew.alloc (.cells #[] 3)).alloc (.cells #[.int .i64 X] 3)) rfl (.tmp 36) (.tmp 39) 38 rfl w.heap.size 3 (.int .i64 0) 8 Try.underlying38 info_int rfl (by omega) (.slice (some ⟨wd.heap.size, 0, none⟩) 0 0) [] T (by simp [Act.eval, Act.put]) own2 (some ⟨g, 0, none⟩) P (by simp [Act.eval, Act.put, hTl]) t2 (fun _ => rfl) hl0 b2 ?_
                  intro v1 w3 o3 g3 a3
                  have o3 : OwI w3 w.heap.size v1 T := o3
                  have q3 : Below wd.heap.size wd w3 := B2.grown g3 B2.size (fun i hi => by simp [Value.ownBlock] at hi; omega)
                  have z3 : w.heap.size ≤ w3.heap.size := Nat.le_trans hbs q3.size
                  have n3 : ∀ i, v1.ownBlock = some i → wd.heap.size ≤ i := fun i hi => by
                    rcases a3 with e | e
                    · rw [e] at hi; simp [Value.ownBlock] at hi; omega
                    · rw [e] at hi; simp at hi; omega
                  have x4 := (OwR.other (u := .slice (some ⟨wd.heap.size, 0, none⟩) 0 0) (OwI_is.1 x2) g3 AP2.out).rd
                  clear g3 a3
                | refine step_appRow (f := Value.int .i64) ((wd.drew.alloc (.cells #[.int .i64 X] 3)).alloc (.cells #[] 3)) rfl (.tmp 36) (.tmp 39) 38 rfl w.heap.size 3 (.int .i64 0) 8 Try.underlying38 info_int rfl (by omega) (.slice (some ⟨wd.heap.size + 1, 0, none⟩) 0 0) [] T (by simp [Act.eval, Act.put]) own3 (some ⟨g, 0, none⟩) P (by simp [Act.eval, Act.put, hTl]) t3 (fun _ => rfl) hl0 b3 ?_
                  intro v1 w3 o3 g3 a3
                  have o3 : OwI w3 w.heap.size v1 T := o3
                  have q3 : Below wd.heap.size wd w3 := B3.grown g3 B3.size (fun i hi => by simp [Value.ownBlock] at hi; omega)
                  have z3 : w.heap.size ≤ w3.heap.size := Nat.le_trans hbs q3.size
                  have n3 : ∀ i, v1.ownBlock = some i → wd.heap.size ≤ i := fun i hi => by
                    rcases a3 with e | e
                    · rw [e] at hi; simp [Value.ownBlock] at hi; omega
                    · rw [e] at hi; simp at hi; omega
                  have x4 := (OwR.other (u := .slice (some ⟨wd.heap.size + 1, 0, none⟩) 0 0) (OwI_is.1 x3) g3 AP3.out).rd
                  clear g3 a3
                | refine step_appI w3 rfl (.tmp 40) (.tmp 45) rfl w.heap.size v1 T (by simp [Act.eval, Act.put]) o3 X (m := w3.heap.size) (by simp [Act.eval, Act.put]) rfl hl3 z3 ?_
                  intro v2 w4 o4 g4 a4
                  have q4 : Below wd.heap.size wd w4 := q3.grown g4 q3.size n3
                  have z4 : w.heap.size ≤ w4.heap.size := Nat.le_trans hbs q4.size
                  have d4 := RdI.empty_ w4 (some ⟨g, 0, none⟩) 0
                  have n4 : ∀ i, v2.ownBlock = some i → wd.heap.size ≤ i := fun i hi => by
                    rcases a4.1 with e | e
                    · rw [e] at hi; exact n3 i hi
                    · rw [e] at hi; have := q3.size; simp at hi; omega
                  clear g4 a4
                | refine step_appRow (f := Value.int .i64) w3 rfl (.tmp 40) (.tmp 45) 38 rfl w.heap.size 3 (.int .i64 0) 8 Try.underlying38 info_int rfl (by omega) v1 T [X] (by simp [Act.eval, Act.put]) o3 (some ⟨wd.heap.size + 1, 0, none⟩) 1 (by simp [Act.eval, Act.put]) x4 (fun _ => rfl) hl2 z3 ?_
                  intro v2 w4 o4 g4 a4
                  have o4 : OwI w4 w.heap.size v2 (T ++ [X]) := o4
                  have q4 : Below wd.heap.size wd w4 := q3.grown g4 q3.size n3
                  have z4 : w.heap.size ≤ w4.heap.size := Nat.le_trans hbs q4.size
                  have d4 := RdI.empty_ w4 (some ⟨g, 0, none⟩) 0
                  have n4 : ∀ i, v2.ownBlock = some i → wd.heap.size ≤ i := fun i hi => by
                    rcases a4 with e | e
                    · rw [e] at hi; exact n3 i hi
                    · rw [e] at hi; have := q3.size; simp at hi; omega
                  clear g4 a4
                | refine step_appRow (f := Value.int .i64) w3 rfl (.tmp 40) (.tmp 45) 38 rfl w.heap.size 3 (.int .i64 0) 8 Try.underlying38 info_int rfl (by omega) v1 T [X] (by simp [Act.eval, Act.put]) o3 (some ⟨wd.heap.size, 0, none⟩) 1 (by simp [Act.eval, Act.put]) x4 (fun _ => rfl) hl2 z3 ?_
                  intro v2 w4 o4 g4 a4
                  have o4 : OwI w4 w.heap.size v2 (T ++ [X]) := o4
                  have q4 : Below wd.heap.size wd w4 := q3.grown g4 q3.size n3
                  have z4 : w.heap.size ≤ w4.heap.size := Nat.le_trans hbs q4.size
                  have d4 := RdI.empty_ w4 (some ⟨g, 0, none⟩) 0
                  have n4 : ∀ i, v2.ownBlock = some i → wd.heap.size ≤ i := fun i hi => by
                    rcases a4 with e | e
                    · rw [e] at hi; exact n3 i hi
                    · rw [e] at hi; have := q3.size; simp at hi; omega
                  clear g4 a4
                | refine step_appRow (f := Value.int .i64) w4 rfl (.tmp 46) (.tmp 49) 38 rfl w.heap.size 3 (.int .i64 0) 8 Try.underlying38 info_int rfl (by omega) v2 (T ++ [X]) [] (by simp [Act.eval, Act.put]) o4 (some ⟨g, 0, none⟩) 0 (by simp [Act.eval, Act.put]; try omega) d4 (fun _ => rfl) hl4 z4 ?_
                  intro v3 w5 o5 g5 a5
                  have o5 : OwI w5 w.heap.size v3 (T ++ [X] ++ []) := o5
                  have q5 : Below wd.heap.size wd w5 := q4.grown g5 q4.size n4
                  obtain ⟨g6, cap6, rfl, _, _⟩ := o5.shape_pos' (by simp; try omega)
                  rw [HLen.out] at o5
                  rw [HLen.out]
                  clear g5 a5)
              all_goals (
                go_wp2_with fail
                go_roundw
                case rel => exact ⟨k + 1, by omega, by go_num, by rw [HSP.out]; exact o5, ⟨_, _, rfl⟩, below_then HBD.out q5⟩
                case measure => simp [intOf]; omega)
          · have hm : m < out.length := by omega
            have c0 := hown1.cellAt m hm
            have hPOS : pos out X (m + 1) = if X < out[m] then pos out X m else m + 1 := by
              show (if X < out.getD m 0 then pos out X m else m + 1) = _
              rw [getD_of hm]
            have HPOS := Lib.hid hPOS
            clear hPOS
            generalize out[m] = Y at *
            have e1 : IntKind.i64.wrap (m : Int) = (m : Int) := IntWalk.i64_in _ (by omega)
            have e5 : (m : Int) < (k : Int) := by omega
            have e6 : decide ((0 : Int) < (m : Int) + 1) = true := decide_eq_true (by omega)
            rw [show ((m + 1 : Nat) : Int) = (m : Int) + 1 by omega]
            by_cases hXY : X < Y
            · have HN := Lib.hid (show pos out X m = pos out X k by rw [← HJ.out, HPOS.out, if_pos hXY])
              have dXY : decide (X < Y) = true := decide_eq_true hXY
              go_wp2_with fail
              go_quiet (fail)
              go_wp2_with fail
              go_roundw
              case rel => exact ⟨m, by omega, by go_num, HN.out, _, by first | rfl | exact drewN_two _ _ _⟩
              case measure => (simp [intOf]; try omega)
            · have HPS := Lib.hid (show pos out X k = m + 1 by rw [← HJ.out, HPOS.out, if_neg hXY])
              have dXY : decide (X < Y) = false := decide_eq_false hXY
              go_wp2_with fail
              go_quiet (fail)
              obtain ⟨P, hP⟩ : ∃ P : Nat, P = m + 1 := ⟨_, rfl⟩
              have HPS := Lib.hid (HPS.out.trans hP.symm)
              clear e1 e5 e6 c0 dXY hXY HPOS
              rw [show ((m : Int) + 1) = (P : Int) by omega]
              clear hP
              have hPk : P ≤ k := by have := pos_le out X k; have := HPS.out; omega
              have HSP := Lib.hid (show srtS f (k + 1) = out.take P ++ [X] ++ out.drop P by
                rw [HSS.out]; unfold insS; rw [hsl, HPS.out, List.append_assoc]; rfl)
              have hownD := (hown1.drewN q).drewN nq
              have hBD := below_drewN (below_drewN hB1 q) nq
              generalize World.drewN (World.drewN w1 q) nq = wd at *
              clear hown1 hB1 hrd1 hfx HPS
              have hPc : P ≤ cap := by omega
              have hbs := hBD.size
              obtain ⟨T, hT⟩ : ∃ T, T = out.take P := ⟨_, rfl⟩
              obtain ⟨D, hD⟩ : ∃ D, D = out.drop P := ⟨_, rfl⟩
              have hTl : T.length = P := by rw [hT, List.length_take]; omega
              have hDl : D.length = k - P := by rw [hD, List.length_drop]; omega
              have hrdD := hownD.rd
              have hrdT : RdI wd (.slice (some ⟨g, 0, none⟩) T.length cap) T := by rw [hTl, hT]; exact hrdD.take_ P (by omega)
              rw [← hT, ← hD] at HSP
              have HRX : Hid (P < cap → RdI wd (.slice (some ⟨g, P, none⟩) D.length (cap - P)) D) := fun _ => by
                have := hrdD.drop_ P (by omega)
                rw [Nat.zero_add, hsl, ← hD] at this
                rw [hDl]; exact this
              have hfx := HFC.out wd hBD
              have B1 : Below wd.heap.size wd (wd.drew.alloc (.cells #[] 3)) := (below_draws wd 1).alloc (Nat.le_refl _) _
              have s1 : (wd.drew.alloc (.cells #[] 3)).heap.size = wd.heap.size + 1 := by simp
              have B2 : Below wd.heap.size wd ((wd.drew.alloc (.cells #[] 3)).alloc (.cells #[.int .i64 X] 3)) := B1.alloc B1.size _
              have BV : Below wd.heap.size wd (wd.drew.alloc (.cells #[.int .i64 X] 3)) := (below_draws wd 1).alloc (Nat.le_refl _) _
              have sV : (wd.drew.alloc (.cells #[.int .i64 X] 3)).heap.size = wd.heap.size + 1 := by simp
              have B3 : Below wd.heap.size wd ((wd.drew.alloc (.cells #[.int .i64 X] 3)).alloc (.cells #[] 3)) := BV.alloc BV.size _
              have own1 : OwI (wd.drew.alloc (.cells #[] 3)) w.heap.size (.slice (some ⟨wd.heap.size, 0, none⟩) 0 0) [] := OwI.empty_ wd.drew w.heap.size hbs
              have own2 : OwI ((wd.drew.alloc (.cells #[] 3)).alloc (.cells #[.int .i64 X] 3)) w.heap.size (.slice (some ⟨wd.heap.size, 0, none⟩) 0 0) [] := own1.below ((Below.refl _ _).alloc (Nat.le_refl _) _)
              have x2 : OwI ((wd.drew.alloc (.cells #[] 3)).alloc (.cells #[.int .i64 X] 3)) w.heap.size (.slice (some ⟨wd.heap.size + 1, 0, none⟩) 1 1) [X] := by
                have := OwI.one (wd.drew.alloc (.cells #[] 3)) X w.heap.size (by omega)
                rw [s1] at this; exact this
              have own3 : OwI ((wd.drew.alloc (.cells #[.int .i64 X] 3)).alloc (.cells #[] 3)) w.heap.size (.slice (some ⟨wd.heap.size + 1, 0, none⟩) 0 0) [] := by
                have := OwI.empty_ (wd.drew.alloc (.cells #[.int .i64 X] 3)) w.heap.size (by omega)
                rw [sV] at this; exact this
              have x3 : OwI ((wd.drew.alloc (.cells #[.int .i64 X] 3)).alloc (.cells #[] 3)) w.heap.size (.slice (some ⟨wd.heap.size, 0, none⟩) 1 1) [X] := (OwI.one wd.drew X w.heap.size hbs).below ((Below.refl _ _).alloc (Nat.le_refl _) _)
              have hl0 : ([] : List Int).length + T.length ≤ 1099511627776 := by rw [hTl]; simp; omega
              have hl2 : T.length + [X].length ≤ 1099511627776 := by rw [hTl]; simp; omega
              have hl3 : T.length < 1099511627776 := by omega
              have hl4 : (T ++ [X]).length + D.length ≤ 1099511627776 := by rw [List.length_append, hTl, hDl]; simp; omega
              have hx1 := HFC.out _ (below_then hBD B1)
              have hx1b := HFC.out (wd.alloc (.cells #[] 3)) (below_then hBD ((Below.refl _ _).alloc (Nat.le_refl _) _))
              have HBD := Lib.hid hBD
              have ap2 : Apart (.slice (some ⟨wd.heap.size + 1, 0, none⟩) 1 1) (.slice (some ⟨wd.heap.size, 0, none⟩) 0 0) := fun g h1 h2 => by simp [Value.ownBlock] at h1 h2; omega
              have ap3 : Apart (.slice (some ⟨wd.heap.size, 0, none⟩) 1 1) (.slice (some ⟨wd.heap.size + 1, 0, none⟩) 0 0) := fun g h1 h2 => by simp [Value.ownBlock] at h1 h2; omega
              have AP2 := Lib.hid ap2
              have AP3 := Lib.hid ap3
              have HS1 := Lib.hid s1
              have t1 := hrdT.below B1
              have t2 := hrdT.below B2
              have t3 := hrdT.below B3
              have b1 : w.heap.size ≤ (wd.drew.alloc (.cells #[] 3)).heap.size := by omega
              have b2 : w.heap.size ≤ ((wd.drew.alloc (.cells #[] 3)).alloc (.cells #[.int .i64 X] 3)).heap.size := Nat.le_trans hbs B2.size
              have b3 : w.heap.size ≤ ((wd.drew.alloc (.cells #[.int .i64 X] 3)).alloc (.cells #[] 3)).heap.size := Nat.le_trans hbs B3.size
              have HDD := Lib.hid hDl
              have HLen := Lib.hid (show (T ++ [X] ++ D).length = k + 1 by rw [List.length_append, List.length_append, hTl, hDl]; simp; omega)
              clear hT hD hrdD hownD ap2 ap3 s1 sV hrdT hBD hDl
              rcases Nat.lt_or_ge P cap with hPlt | hPge
              · have HDX := Lib.hid (HRX.out hPlt)
                go_wp2_with fail
                go_region_law (first
                  | refine step_appRow (f := Value.int .i64) (wd.drew.alloc (.cells #[] 3)) rfl (.tmp 36) (.tmp 39) 38 rfl w.heap.size 3 (.int .i64 0) 8 Try.underlying38 info_int rfl (by omega) (.slice (some ⟨wd.heap.size, 0, none⟩) 0 0) [] T (by simp [Act.eval, Act.put]) own1 (some ⟨g, 0, none⟩) cap (by simp [Act.eval, Act.put, hTl]) t1 (fun _ => rfl) hl0 b1 ?_
                    intro v1 w3 o3 g3 a3
                    have o3 : OwI w3 w.heap.size v1 T := o3
                    have q3 : Below wd.heap.size wd w3 := B1.grown g3 B1.size (fun i hi => by simp [Value.ownBlock] at hi; omega)
                    have z3 : w.heap.size ≤ w3.heap.size := Nat.le_trans hbs q3.size
                    have n3 : ∀ i, v1.ownBlock = some i → wd.heap.size ≤ i := fun i hi => by
                      rcases a3 with e | e
                      · rw [e] at hi; simp [Value.ownBlock] at hi; omega
                      · rw [e] at hi; simp at hi; omega
                    have f3 := HFC.out w3 (below_then HBD.out q3)
                    clear g3 a3
                  | refine step_appRow (f := Value.int .i64) ((wd.drew.alloc (.cells #[] 3)).alloc (.cells #[.int .i64 X] 3)) rfl (.tmp 36) (.tmp 39) 38 rfl w.heap.size 3 (.int .i64 0) 8 Try.underlying38 info_int rfl (by omega) (.slice (some ⟨wd.heap.size, 0, none⟩) 0 0) [] T (by simp [Act.eval, Act.put]) own2 (some ⟨g, 0, none⟩) cap (by simp [Act.eval, Act.put, hTl]) t2 (fun _ => rfl) hl0 b2 ?_
                    intro v1 w3 o3 g3 a3
                    have o3 : OwI w3 w.heap.size v1 T := o3
                    have q3 : Below wd.heap.size wd w3 := B2.grown g3 B2.size (fun i hi => by simp [Value.ownBlock] at hi; omega)
                    have z3 : w.heap.size ≤ w3.heap.size := Nat.le_trans hbs q3.size
                    have n3 : ∀ i, v1.ownBlock = some i → wd.heap.size ≤ i := fun i hi => by
                      rcases a3 with e | e
                      · rw [e] at hi; simp [Value.ownBlock] at hi; omega
                      · rw [e] at hi; simp at hi; omega
                    have x4 := (OwR.other (u := .slice (some ⟨wd.heap.size, 0, none⟩) 0 0) (OwI_is.1 x2) g3 AP2.out).rd
                    clear g3 a3
                  | refine step_appRow (f := Value.int .i64) ((wd.drew.alloc (.cells #[.int .i64 X] 3)).alloc (.cells #[] 3)) rfl (.tmp 36) (.tmp 39) 38 rfl w.heap.size 3 (.int .i64 0) 8 Try.underlying38 info_int rfl (by omega) (.slice (some ⟨wd.heap.size + 1, 0, none⟩) 0 0) [] T (by simp [Act.eval, Act.put]) own3 (some ⟨g, 0, none⟩) cap (by simp [Act.eval, Act.put, hTl]) t3 (fun _ => rfl) hl0 b3 ?_
                    intro v1 w3 o3 g3 a3
                    have o3 : OwI w3 w.heap.size v1 T := o3
                    have q3 : Below wd.heap.size wd w3 := B3.grown g3 B3.size (fun i hi => by simp [Value.ownBlock] at hi; omega)
                    have z3 : w.heap.size ≤ w3.heap.size := Nat.le_trans hbs q3.size
                    have n3 : ∀ i, v1.ownBlock = some i → wd.heap.size ≤ i := fun i hi => by
                      rcases a3 with e | e
                      · rw [e] at hi; simp [Value.ownBlock] at hi; omega
                      · rw [e] at hi; simp at hi; omega
                    have x4 := (OwR.other (u := .slice (some ⟨wd.heap.size + 1, 0, none⟩) 0 0) (OwI_is.1 x3) g3 AP3.out).rd
                    clear g3 a3
                  | refine step_appI w3 rfl (.tmp 40) (.tmp 45) rfl w.heap.size v1 T (by simp [Act.eval, Act.put]) o3 X (m := w3.heap.size) (by simp [Act.eval, Act.put]) rfl hl3 z3 ?_
                    intro v2 w4 o4 g4 a4
                    have q4 : Below wd.heap.size wd w4 := q3.grown g4 q3.size n3
                    have z4 : w.heap.size ≤ w4.heap.size := Nat.le_trans hbs q4.size
                    have d4 := HDX.out.below q4
                    have n4 : ∀ i, v2.ownBlock = some i → wd.heap.size ≤ i := fun i hi => by
                      rcases a4.1 with e | e
                      · rw [e] at hi; exact n3 i hi
                      · rw [e] at hi; have := q3.size; simp at hi; omega
                    clear g4 a4
                  | refine step_appRow (f := Value.int .i64) w3 rfl (.tmp 40) (.tmp 45) 38 rfl w.heap.size 3 (.int .i64 0) 8 Try.underlying38 info_int rfl (by omega) v1 T [X] (by simp [Act.eval, Act.put]) o3 (some ⟨wd.heap.size + 1, 0, none⟩) 1 (by simp [Act.eval, Act.put]) x4 (fun _ => rfl) hl2 z3 ?_
                    intro v2 w4 o4 g4 a4
                    have o4 : OwI w4 w.heap.size v2 (T ++ [X]) := o4
                    have q4 : Below wd.heap.size wd w4 := q3.grown g4 q3.size n3
                    have z4 : w.heap.size ≤ w4.heap.size := Nat.le_trans hbs q4.size
                    have d4 := HDX.out.below q4
                    have n4 : ∀ i, v2.ownBlock = some i → wd.heap.size ≤ i := fun i hi => by
                      rcases a4 with e | e
                      · rw [e] at hi; exact n3 i hi
                      · rw [e] at hi; have := q3.size; simp at hi; omega
                    clear g4 a4
                  | refine step_appRow (f := Value.int .i64) w3 rfl (.tmp 40) (.tmp 45) 38 rfl w.heap.size 3 (.int .i64 0) 8 Try.underlying38 info_int rfl (by omega) v1 T [X] (by simp [Act.eval, Act.put]) o3 (some ⟨wd.heap.size, 0, none⟩) 1 (by simp [Act.eval, Act.put]) x4 (fun _ => rfl) hl2 z3 ?_
                    intro v2 w4 o4 g4 a4
                    have o4 : OwI w4 w.heap.size v2 (T ++ [X]) := o4
                    have q4 : Below wd.heap.size wd w4 := q3.grown g4 q3.size n3
                    have z4 : w.heap.size ≤ w4.heap.size := Nat.le_trans hbs q4.size
                    have d4 := HDX.out.below q4
                    have n4 : ∀ i, v2.ownBlock = some i → wd.heap.size ≤ i := fun i hi => by
                      rcases a4 with e | e
                      · rw [e] at hi; exact n3 i hi
                      · rw [e] at hi; have := q3.size; simp at hi; omega
                    clear g4 a4
                  | refine step_appRow (f := Value.int .i64) w4 rfl (.tmp 46) (.tmp 49) 38 rfl w.heap.size 3 (.int .i64 0) 8 Try.underlying38 info_int rfl (by omega) v2 (T ++ [X]) D (by simp [Act.eval, Act.put]) o4 (some ⟨g, P, none⟩) (cap - P) (by simp [Act.eval, Act.put, HDD.out]; intros; omega) d4 (fun _ => rfl) hl4 z4 ?_
                    intro v3 w5 o5 g5 a5
                    have o5 : OwI w5 w.heap.size v3 (T ++ [X] ++ D) := o5
                    have q5 : Below wd.heap.size wd w5 := q4.grown g5 q4.size n4
                    obtain ⟨g6, cap6, rfl, _, _⟩ := o5.shape_pos' (by simp; try omega)
                    rw [HLen.out] at o5
                    rw [HLen.out]
                    clear g5 a5)
                all_goals (
                  go_wp2_with fail
                  go_roundw
                  case rel => exact ⟨k + 1, by omega, by go_num, by rw [HSP.out]; exact o5, ⟨_, _, rfl⟩, below_then HBD.out q5⟩
                  case measure => simp [intOf]; omega)
              · have hPe : P = cap := by omega
                have hD0 : D = [] := List.eq_nil_of_length_eq_zero (by have := HDD.out; omega)
                subst hD0
                subst hPe
                clear HRX hPge
                go_wp2_with fail
                go_region_law (first
                  | refine step_appRow (f := Value.int .i64) (wd.drew.alloc (.cells #[] 3)) rfl (.tmp 36) (.tmp 39) 38 rfl w.heap.size 3 (.int .i64 0) 8 Try.underlying38 info_int rfl (by omega) (.slice (some ⟨wd.heap.size, 0, none⟩) 0 0) [] T (by simp [Act.eval, Act.put]) own1 (some ⟨g, 0, none⟩) P (by simp [Act.eval, Act.put, hTl]) t1 (fun _ => rfl) hl0 b1 ?_
                    intro v1 w3 o3 g3 a3
                    have o3 : OwI w3 w.heap.size v1 T := o3
                    have q3 : Below wd.heap.size wd w3 := B1.grown g3 B1.size (fun i hi => by simp [Value.ownBlock] at hi; omega)
                    have z3 : w.heap.size ≤ w3.heap.size := Nat.le_trans hbs q3.size
                    have n3 : ∀ i, v1.ownBlock = some i → wd.heap.size ≤ i := fun i hi => by
                      rcases a3 with e | e
                      · rw [e] at hi; simp [Value.ownBlock] at hi; omega
                      · rw [e] at hi; simp at hi; omega
                    have f3 := HFC.out w3 (below_then HBD.out q3)
                    clear g3 a3
                  | refine step_appRow (f := Value.int .i64) ((wd.drew.alloc (.cells #[] 3)).alloc (.cells #[.int .i64 X] 3)) rfl (.tmp 36) (.tmp 39) 38 rfl w.heap.size 3 (.int .i64 0) 8 Try.underlying38 info_int rfl (by omega) (.slice (some ⟨wd.heap.size, 0, none⟩) 0 0) [] T (by simp [Act.eval, Act.put]) own2 (some ⟨g, 0, none⟩) P (by simp [Act.eval, Act.put, hTl]) t2 (fun _ => rfl) hl0 b2 ?_
                    intro v1 w3 o3 g3 a3
                    have o3 : OwI w3 w.heap.size v1 T := o3
                    have q3 : Below wd.heap.size wd w3 := B2.grown g3 B2.size (fun i hi => by simp [Value.ownBlock] at hi; omega)
                    have z3 : w.heap.size ≤ w3.heap.size := Nat.le_trans hbs q3.size
                    have n3 : ∀ i, v1.ownBlock = some i → wd.heap.size ≤ i := fun i hi => by
                      rcases a3 with e | e
                      · rw [e] at hi; simp [Value.ownBlock] at hi; omega
                      · rw [e] at hi; simp at hi; omega
                    have x4 := (OwR.other (u := .slice (some ⟨wd.heap.size, 0, none⟩) 0 0) (OwI_is.1 x2) g3 AP2.out).rd
                    clear g3 a3
                  | refine step_appRow (f := Value.int .i64) ((wd.drew.alloc (.cells #[.int .i64 X] 3)).alloc (.cells #[] 3)) rfl (.tmp 36) (.tmp 39) 38 rfl w.heap.size 3 (.int .i64 0) 8 Try.underlying38 info_int rfl (by omega) (.slice (some ⟨wd.heap.size + 1, 0, none⟩) 0 0) [] T (by simp [Act.eval, Act.put]) own3 (some ⟨g, 0, none⟩) P (by simp [Act.eval, Act.put, hTl]) t3 (fun _ => rfl) hl0 b3 ?_
                    intro v1 w3 o3 g3 a3
                    have o3 : OwI w3 w.heap.size v1 T := o3
                    have q3 : Below wd.heap.size wd w3 := B3.grown g3 B3.size (fun i hi => by simp [Value.ownBlock] at hi; omega)
                    have z3 : w.heap.size ≤ w3.heap.size := Nat.le_trans hbs q3.size
                    have n3 : ∀ i, v1.ownBlock = some i → wd.heap.size ≤ i := fun i hi => by
                      rcases a3 with e | e
                      · rw [e] at hi; simp [Value.ownBlock] at hi; omega
                      · rw [e] at hi; simp at hi; omega
                    have x4 := (OwR.other (u := .slice (some ⟨wd.heap.size + 1, 0, none⟩) 0 0) (OwI_is.1 x3) g3 AP3.out).rd
                    clear g3 a3
                  | refine step_appI w3 rfl (.tmp 40) (.tmp 45) rfl w.heap.size v1 T (by simp [Act.eval, Act.put]) o3 X (m := w3.heap.size) (by simp [Act.eval, Act.put]) rfl hl3 z3 ?_
                    intro v2 w4 o4 g4 a4
                    have q4 : Below wd.heap.size wd w4 := q3.grown g4 q3.size n3
                    have z4 : w.heap.size ≤ w4.heap.size := Nat.le_trans hbs q4.size
                    have d4 := RdI.empty_ w4 (some ⟨g, 0, none⟩) 0
                    have n4 : ∀ i, v2.ownBlock = some i → wd.heap.size ≤ i := fun i hi => by
                      rcases a4.1 with e | e
                      · rw [e] at hi; exact n3 i hi
                      · rw [e] at hi; have := q3.size; simp at hi; omega
                    clear g4 a4
                  | refine step_appRow (f := Value.int .i64) w3 rfl (.tmp 40) (.tmp 45) 38 rfl w.heap.size 3 (.int .i64 0) 8 Try.underlying38 info_int rfl (by omega) v1 T [X] (by simp [Act.eval, Act.put]) o3 (some ⟨wd.heap.size + 1, 0, none⟩) 1 (by simp [Act.eval, Act.put]) x4 (fun _ => rfl) hl2 z3 ?_
                    intro v2 w4 o4 g4 a4
                    have o4 : OwI w4 w.heap.size v2 (T ++ [X]) := o4
                    have q4 : Below wd.heap.size wd w4 := q3.grown g4 q3.size n3
                    have z4 : w.heap.size ≤ w4.heap.size := Nat.le_trans hbs q4.size
                    have d4 := RdI.empty_ w4 (some ⟨g, 0, none⟩) 0
                    have n4 : ∀ i, v2.ownBlock = some i → wd.heap.size ≤ i := fun i hi => by
                      rcases a4 with e | e
                      · rw [e] at hi; exact n3 i hi
                      · rw [e] at hi; have := q3.size; simp at hi; omega
                    clear g4 a4
                  | refine step_appRow (f := Value.int .i64) w3 rfl (.tmp 40) (.tmp 45) 38 rfl w.heap.size 3 (.int .i64 0) 8 Try.underlying38 info_int rfl (by omega) v1 T [X] (by simp [Act.eval, Act.put]) o3 (some ⟨wd.heap.size, 0, none⟩) 1 (by simp [Act.eval, Act.put]) x4 (fun _ => rfl) hl2 z3 ?_
                    intro v2 w4 o4 g4 a4
                    have o4 : OwI w4 w.heap.size v2 (T ++ [X]) := o4
                    have q4 : Below wd.heap.size wd w4 := q3.grown g4 q3.size n3
                    have z4 : w.heap.size ≤ w4.heap.size := Nat.le_trans hbs q4.size
                    have d4 := RdI.empty_ w4 (some ⟨g, 0, none⟩) 0
                    have n4 : ∀ i, v2.ownBlock = some i → wd.heap.size ≤ i := fun i hi => by
                      rcases a4 with e | e
                      · rw [e] at hi; exact n3 i hi
                      · rw [e] at hi; have := q3.size; simp at hi; omega
                    clear g4 a4
                  | refine step_appRow (f := Value.int .i64) w4 rfl (.tmp 46) (.tmp 49) 38 rfl w.heap.size 3 (.int .i64 0) 8 Try.underlying38 info_int rfl (by omega) v2 (T ++ [X]) [] (by simp [Act.eval, Act.put]) o4 (some ⟨g, 0, none⟩) 0 (by simp [Act.eval, Act.put]; try omega) d4 (fun _ => rfl) hl4 z4 ?_
                    intro v3 w5 o5 g5 a5
                    have o5 : OwI w5 w.heap.size v3 (T ++ [X] ++ []) := o5
                    have q5 : Below wd.heap.size wd w5 := q4.grown g5 q4.size n4
                    obtain ⟨g6, cap6, rfl, _, _⟩ := o5.shape_pos' (by simp; try omega)
                    rw [HLen.out] at o5
                    rw [HLen.out]
                    clear g5 a5)
                all_goals (
                  go_wp2_with fail
                  go_roundw
                  case rel => exact ⟨k + 1, by omega, by go_num, by rw [HSP.out]; exact o5, ⟨_, _, rfl⟩, below_then HBD.out q5⟩
                  case measure => simp [intOf]; omega)
      · have hke : k = f.length := by omega
        subst hke
        go_wp2_with (go_at_call 219; refine (HP.out _ hB).mono ?_; rintro e w1 ⟨rfl, b1⟩)
        go_ret2
        exact RetIB.mk HV.out (hown.below b1) (below_then hB b1)
  · have hF : (placesR f).2 = false := by simpa using hT
    have HV := Lib.hid (show spR f = ([], false) by unfold spR; rw [if_neg hT])
    rw [hF] at HP0
    have HP := Lib.hid HP0
    clear hT hF HP0
    go_enter Try.func140, Try.ntmps140
    go_wp2_with fail
    have own0 := OwI.empty_ w w.heap.size (Nat.le_refl _)
    have hB0 : Below w.heap.size w (w.alloc (.cells #[] 3)) := (Below.refl _ _).alloc (Nat.le_refl _) _
    generalize w.alloc (.cells #[] 3) = w0 at own0 hB0 ⊢
    by_cases h0 : 0 < f.length
    · refine wp_loop_rounds 1 ?_
      rw [rounds_succ]
      go_wp2_with fail
      refine (HP.out _ hB0).mono ?_; rintro e w1 ⟨rfl, b1⟩
      have B1 := below_then hB0 b1
      have o1 := own0.below b1
      go_wp2_with fail
      refine (HP.out _ B1).mono ?_; rintro e w2 ⟨rfl, b2⟩
      go_wp2_with fail
      go_ret2
      exact RetIB.mk HV.out (o1.below b2) (below_then B1 b2)
    · refine wp_loop_rounds 1 ?_
      rw [rounds_succ]
      go_wp2_with fail
      refine (HP.out _ hB0).mono ?_; rintro e w1 ⟨rfl, b1⟩
      go_wp2_with fail
      go_ret2
      exact RetIB.mk HV.out (own0.below b1) (below_then hB0 b1)
end Go.Proofs.Ytnkkgfeegaiakaa
