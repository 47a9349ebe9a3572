/- Contract of l7Put, the reference's: a row put into a slice of rows in order, in new memory. Conditions: rows of two numbers, and few of them. -/
import Derived.Test.YtnkkgfeegaiakaaTriSpec
import Derived.Test.YtnkkgfeegaiakaaSortRows
import Derived.Deep.RegionLaw
namespace Go.Proofs.Ytnkkgfeegaiakaa
open Go.RowKit
/-- a slice that owns, that reads, values of one cell each -/
abbrev OneV := {v : Value // v.oneCell' = true}
def OwG (w : World) (base : Nat) (v : Value) (xs : List OneV) : Prop := OwR 38 (Subtype.val : OneV → Value) w base v xs
def RdG (w : World) (v : Value) (xs : List OneV) : Prop := RdR (Subtype.val : OneV → Value) w v xs
theorem OwG.rd {w : World} {base : Nat} {v : Value} {xs : List OneV} (h : OwG w base v xs) : RdG w v xs := OwR.rd h
theorem RdG.below {w w' : World} {v : Value} {xs : List OneV} (h : RdG w v xs) (hb : Below w.heap.size w w') : RdG w' v xs := RdR.below h hb
theorem OwG.none_ (w : World) (base : Nat) (hb : base ≤ w.heap.size) : OwG (w.alloc (.cells #[] 38)) base (.slice (some ⟨w.heap.size, 0, none⟩) 0 0) [] := OwR.lit (e := 38) (f := (Subtype.val : OneV → Value)) w [] base hb (by simp)
theorem OwG.one (w : World) (X : OneV) (base : Nat) (hb : base ≤ w.heap.size) : OwG (w.alloc (.cells #[X.1] 38)) base (.slice (some ⟨w.heap.size, 0, none⟩) 1 1) [X] := OwR.lit (e := 38) (f := (Subtype.val : OneV → Value)) w [X] base hb (by simp)
theorem OwG.one' (w : World) (X : OneV) {u : Value} (h : X.1 = u) (base : Nat) (hb : base ≤ w.heap.size) : OwG (w.alloc (.cells #[u] 38)) base (.slice (some ⟨w.heap.size, 0, none⟩) 1 1) [X] := by
  subst h; exact OwG.one w X base hb
theorem RdR.take_ {α : Type} {f : α → Value} {w : World} {A : Option Addr} {n c : Nat} {xs : List α} (h : RdR f w (.slice A n c) xs) (k : Nat) (hk : k ≤ xs.length) : RdR f w (.slice A k c) (xs.take k) := by
  obtain ⟨A', c', e, h1, h2, h3⟩ := h
  injection e with e1 e2 e3
  subst e1; subst e3
  have hl : (xs.take k).length = k := by rw [List.length_take]; omega
  refine ⟨A, c, by rw [hl], by omega, by omega, fun h0 => ?_⟩
  obtain ⟨b, o, he, hb, hc⟩ := h3 (by omega)
  refine ⟨b, o, he, hb, fun j hj => ?_⟩
  rw [List.getElem_take]
  exact hc j (by omega)
theorem RdR.drop_ {α : Type} {f : α → Value} {w : World} {b o n c : Nat} {xs : List α} (h : RdR f w (.slice (some ⟨b, o, none⟩) n c) xs) (k : Nat) (hk : k ≤ xs.length) : RdR f w (.slice (some ⟨b, o + k, none⟩) (xs.length - k) (c - k)) (xs.drop k) := by
  obtain ⟨A', c', e, h1, h2, h3⟩ := h
  injection e with e1 e2 e3
  subst e1; subst e3
  have hl : (xs.drop k).length = xs.length - k := by rw [List.length_drop]
  refine ⟨_, c - k, by rw [hl], by omega, by omega, fun h0 => ?_⟩
  obtain ⟨b', o', he, hb, hc⟩ := h3 (by omega)
  injection he with he
  injection he with he1 he2
  subst he1; subst he2
  refine ⟨b, o + k, rfl, hb, fun j hj => ?_⟩
  rw [List.getElem_drop, Nat.add_assoc]
  exact hc (k + j) (by omega)
theorem step_appG (wr : World) {ops : Array Oper} {o : Oper} {a : Act} {K : Act → World → Prop} {Q : Exit → Act → World → Prop} {E : Prop} (hgd : o.guard = none) (s x : Operand)
    (ho : o.op = .call { callee := .builtin .append, args := #[s, x], argTypes := #[22, 22] })
    (base : Nat) (v : Value) (xs ys : List OneV) (hs : a.eval s = v) (hown : OwG wr base v xs) (A : Option Addr) (c : Nat) (hx : a.eval x = .slice A ys.length c) (hrd : RdG wr (.slice A ys.length c) ys)
    (hlen : xs.length + ys.length ≤ 1099511627776) (hbase : base ≤ wr.heap.size)
    (h : ∀ v' w', OwG w' base v' (xs ++ ys) → wr.grownBy w' v.ownBlock → (v'.ownBlock = v.ownBlock ∨ v'.ownBlock = some wr.heap.size) → K (a.put o.dst v') w') :
    if Region.wanted o (yielded ops a.tmps) = true then Oper.wp Try.prog o a wr K Q else E := by
  have hw : Region.wanted o (yielded ops a.tmps) = true := by simp [Region.wanted, hgd]
  rw [if_pos hw]
  exact wp_appRow (f := (Subtype.val : OneV → Value)) wr s x 22 ho base 38 (.slice none 0 0) 24 Try.underlying22 info_slice rfl (by omega) v xs ys hs hown A c hx hrd (fun y => y.2) hlen hbase h
def RetP (w : World) (Ps : List (Value × List Int)) (e : Ending) (w' : World) : Prop := ∃ g cap, e = .returned (.slice (some ⟨g, 0, none⟩) Ps.length cap) ∧ Spine w' w.heap.size (.slice (some ⟨g, 0, none⟩) Ps.length cap) Ps ∧ Below w.heap.size w w'
theorem put_done {w wd w5 : World} {base : Nat} {A : Option Addr} {n c : Nat} {L : List OneV} {Ps : List (Value × List Int)} {q : Value × List Int} (hb : base = w.heap.size) (hd : Below w.heap.size w wd) (ho : OwG w5 base (.slice A n c) L) (hq : Below wd.heap.size wd w5)
    (hp : L.map Subtype.val = (putG dP ltP Ps q).map (·.1)) : RetP w (putG dP ltP Ps q) (.returned (.slice A n c)) w5 := by
  subst hb
  have hs : Spine w5 w.heap.size (.slice A n c) (putG dP ltP Ps q) := (OwR.sub_ hp).2 ho
  have hl := putG_len dP ltP Ps q
  rcases OwR.shape hs with ⟨_, e⟩ | ⟨g, cap, e, _⟩
  · have := congrArg List.length e; rw [List.length_map, List.length_nil] at this; omega
  · rw [List.length_map] at e
    injection e with e1 e2 e3
    subst e1; subst e2; subst e3
    exact ⟨g, c, rfl, hs, below_then hd hq⟩
set_option maxRecDepth 8000 in
set_option maxHeartbeats 6400000 in
theorem l7Put_any (g cap : Nat) (Ps : List (Value × List Int)) (xv : Value) (x : List Int) (w : World) (b0 : Nat) (hs : Spine w b0 (.slice (some ⟨g, 0, none⟩) Ps.length cap) Ps) (hr : RowsOk w b0 Ps) (hx : OwI w b0 xv x) (hx2 : x.length = 2) (h2 : ∀ q ∈ Ps, q.2.length = 2) (hl : Ps.length ≤ 100) :
    Calls Try.prog 225 #[.slice (some ⟨g, 0, none⟩) Ps.length cap, xv] w (RetP w (putG dP ltP Ps (xv, x))) := by
  obtain ⟨Us, hU⟩ : ∃ Us : List OneV, Us.map Subtype.val = Ps.map (·.1) := ⟨(Ps.map (·.1)).attachWith _ (fun x hx => by obtain ⟨q, hq, rfl⟩ := List.mem_map.1 hx; exact (hr.1 q hq).oneCell), by simp⟩
  have HU := Lib.hid hU
  have HUL := Lib.hid (show Us.length = Ps.length by have := congrArg List.length hU; simpa using this)
  have HS := Lib.hid hs
  have hcap : Ps.length ≤ cap := by
    obtain ⟨_, _, e, h1, _⟩ := OwR.rd hs
    injection e with e1 e2 e3
    rw [List.length_map] at h1
    omega
  have HR := Lib.hid hr
  have H2 := Lib.hid h2
  obtain ⟨c, d, rfl⟩ := two_of hx2
  have hxr := hx.rd
  obtain ⟨bx, ox, cx, rfl, _, _, _⟩ := hxr.two
  obtain ⟨X, hX⟩ : ∃ X : OneV, X.1 = (.slice (some ⟨bx, ox, none⟩) 2 cx) := ⟨⟨(.slice (some ⟨bx, ox, none⟩) 2 cx), rfl⟩, rfl⟩
  have HXR := Lib.hid hxr
  clear hs hr h2 hx hU hxr hx2
  go_enter Try.func225, Try.ntmps225
  go_wp2_with fail
  go_loopw [5] (fun v w2 => ∃ j : Nat, j ≤ Ps.length ∧ v = .int .i64 (j : Int) ∧ Hid (posG dP ltP Ps ((.slice (some ⟨bx, ox, none⟩) 2 cx), [c, d]) j = posG dP ltP Ps ((.slice (some ⟨bx, ox, none⟩) 2 cx), [c, d]) Ps.length) ∧ ∃ q, w2 = w.drewN q) (fun v _ => (intOf v).toNat)
  case atStart => exact ⟨Ps.length, Nat.le_refl _, rfl, rfl, 0, rfl⟩
  case round =>
    obtain ⟨P, hPk, rfl, HJ, Q, rfl⟩ := hrel
    by_cases hP0 : P = 0
    · have HPS := Lib.hid (show posG dP ltP Ps ((.slice (some ⟨bx, ox, none⟩) 2 cx), [c, d]) Ps.length = P by rw [← HJ.out, hP0]; rfl)
      have k1 : ¬ (0 : Int) < (P : Int) := by omega
      have k2 : decide ((0 : Int) < (P : Int)) = false := decide_eq_false k1
      have k3 : decide (0 < P) = false := decide_eq_false (by omega)
      clear hP0
      go_wp2_with fail
      have hwz : (w.drewN Q).heap.size = w.heap.size := rfl
      have sD0 : Spine (w.drewN Q) b0 (.slice (some ⟨g, 0, none⟩) Ps.length cap) Ps := HS.out
      have BD0 : Below w.heap.size w (w.drewN Q) := below_draws w Q
      generalize w.drewN Q = wd at hwz sD0 BD0 ⊢
      obtain ⟨base, hbase⟩ : ∃ n, n = w.heap.size := ⟨_, rfl⟩
      have hbs : base ≤ wd.heap.size := by omega
      have HBASE := Lib.hid hbase
      have HBD := Lib.hid BD0
      have oD : OwG wd b0 (.slice (some ⟨g, 0, none⟩) Ps.length cap) Us := (OwR.sub_ HU.out).1 sD0
      have hrdD := OwR.rd oD
      have hPc : P ≤ cap := by omega
      obtain ⟨T, hT⟩ : ∃ T, T = Us.take P := ⟨_, rfl⟩
      obtain ⟨D, hD⟩ : ∃ D, D = Us.drop P := ⟨_, rfl⟩
      have hTl : T.length = P := by rw [hT, List.length_take, HUL.out]; omega
      have hDl : D.length = Ps.length - P := by rw [hD, List.length_drop, HUL.out]
      have hrdT : RdG wd (.slice (some ⟨g, 0, none⟩) T.length cap) T := by rw [hTl, hT]; exact hrdD.take_ P (by rw [HUL.out]; exact hPk)
      have HRX : Hid (P < cap → RdG wd (.slice (some ⟨g, P, none⟩) D.length (cap - P)) D) := fun _ => by
        have := hrdD.drop_ P (by rw [HUL.out]; exact hPk)
        rw [Nat.zero_add, HUL.out, ← hD] at this
        rw [hDl]; exact this
      have HPUT := Lib.hid (show (T ++ [X] ++ D).map Subtype.val = (putG dP ltP Ps ((.slice (some ⟨bx, ox, none⟩) 2 cx), [c, d])).map (·.1) by
        have hU := HU.out
        unfold putG
        rw [HPS.out, hT, hD]
        simp only [List.map_append, List.map_take, List.map_drop, hU, hX, List.map_cons, List.append_assoc, List.cons_append, List.nil_append])
      have B1 : Below wd.heap.size wd (wd.drew.alloc (.cells #[] 38)) := (below_draws wd 1).alloc (Nat.le_refl _) _
      have s1 : (wd.drew.alloc (.cells #[] 38)).heap.size = wd.heap.size + 1 := by simp
      have B2 : Below wd.heap.size wd ((wd.drew.alloc (.cells #[] 38)).alloc (.cells #[(.slice (some ⟨bx, ox, none⟩) 2 cx)] 38)) := B1.alloc B1.size _
      have BV : Below wd.heap.size wd (wd.drew.alloc (.cells #[(.slice (some ⟨bx, ox, none⟩) 2 cx)] 38)) := (below_draws wd 1).alloc (Nat.le_refl _) _
      have sV : (wd.drew.alloc (.cells #[(.slice (some ⟨bx, ox, none⟩) 2 cx)] 38)).heap.size = wd.heap.size + 1 := by simp
      have B3 : Below wd.heap.size wd ((wd.drew.alloc (.cells #[(.slice (some ⟨bx, ox, none⟩) 2 cx)] 38)).alloc (.cells #[] 38)) := BV.alloc BV.size _
      have own1 : OwG (wd.drew.alloc (.cells #[] 38)) base (.slice (some ⟨wd.heap.size, 0, none⟩) 0 0) [] := OwG.none_ wd.drew base hbs
      have own2 : OwG ((wd.drew.alloc (.cells #[] 38)).alloc (.cells #[(.slice (some ⟨bx, ox, none⟩) 2 cx)] 38)) base (.slice (some ⟨wd.heap.size, 0, none⟩) 0 0) [] := OwR.below own1 ((Below.refl _ _).alloc (Nat.le_refl _) _)
      have x2 : OwG ((wd.drew.alloc (.cells #[] 38)).alloc (.cells #[(.slice (some ⟨bx, ox, none⟩) 2 cx)] 38)) base (.slice (some ⟨wd.heap.size + 1, 0, none⟩) 1 1) [X] := by
        have := OwG.one' (wd.drew.alloc (.cells #[] 38)) X hX base (by omega)
        rw [s1] at this; exact this
      have own3 : OwG ((wd.drew.alloc (.cells #[(.slice (some ⟨bx, ox, none⟩) 2 cx)] 38)).alloc (.cells #[] 38)) base (.slice (some ⟨wd.heap.size + 1, 0, none⟩) 0 0) [] := by
        have := OwG.none_ (wd.drew.alloc (.cells #[(.slice (some ⟨bx, ox, none⟩) 2 cx)] 38)) base (by omega)
        rw [sV] at this; exact this
      have x3 : OwG ((wd.drew.alloc (.cells #[(.slice (some ⟨bx, ox, none⟩) 2 cx)] 38)).alloc (.cells #[] 38)) base (.slice (some ⟨wd.heap.size, 0, none⟩) 1 1) [X] := OwR.below (OwG.one' wd.drew X hX base hbs) ((Below.refl _ _).alloc (Nat.le_refl _) _)
      have hl0 : ([] : List {v : Value // v.oneCell' = true}).length + T.length ≤ 1099511627776 := by rw [hTl]; simp; omega
      have hl2 : T.length + [X].length ≤ 1099511627776 := by rw [hTl]; simp; omega
      have hl4 : (T ++ [X]).length + D.length ≤ 1099511627776 := by rw [List.length_append, hTl, hDl]; simp; omega
      have hl5 : (T ++ [X]).length + ([] : List {v : Value // v.oneCell' = true}).length ≤ 1099511627776 := by rw [List.length_append, hTl]; simp; omega
      have AP2 : Hid (Apart (.slice (some ⟨wd.heap.size + 1, 0, none⟩) 1 1) (.slice (some ⟨wd.heap.size, 0, none⟩) 0 0)) := Lib.hid (fun g h1 h2 => by simp [Value.ownBlock] at h1 h2; omega)
      have AP3 : Hid (Apart (.slice (some ⟨wd.heap.size, 0, none⟩) 1 1) (.slice (some ⟨wd.heap.size + 1, 0, none⟩) 0 0)) := Lib.hid (fun g h1 h2 => by simp [Value.ownBlock] at h1 h2; omega)
      have t1 := hrdT.below B1
      have t2 := hrdT.below B2
      have t3 := hrdT.below B3
      have b1 : base ≤ (wd.drew.alloc (.cells #[] 38)).heap.size := by omega
      have b2 : base ≤ ((wd.drew.alloc (.cells #[] 38)).alloc (.cells #[(.slice (some ⟨bx, ox, none⟩) 2 cx)] 38)).heap.size := Nat.le_trans hbs B2.size
      have b3 : base ≤ ((wd.drew.alloc (.cells #[(.slice (some ⟨bx, ox, none⟩) 2 cx)] 38)).alloc (.cells #[] 38)).heap.size := Nat.le_trans hbs B3.size
      have HDD := Lib.hid hDl
      have HLen := Lib.hid (show (T ++ [X] ++ D).length = Ps.length + 1 by rw [List.length_append, List.length_append, hTl, hDl]; simp; omega)
      clear hT hD hrdD sD0 oD s1 sV hrdT BD0 hDl hbase hwz
      rcases Nat.lt_or_ge P cap with hPlt | hPge
      · have HDX := Lib.hid (HRX.out hPlt)
        go_region_law (first
          | refine step_appG (wd.drew.alloc (.cells #[] 38)) rfl (.tmp 21) (.tmp 24) rfl base (.slice (some ⟨wd.heap.size, 0, none⟩) 0 0) [] T (by simp [Act.eval]) own1 (some ⟨g, 0, none⟩) cap (by simp [Act.eval, hTl]) t1 hl0 b1 ?_
            intro v1 w3 o3 g3 a3
            have o3 : OwG w3 base v1 T := o3
            have q3 : Below wd.heap.size wd w3 := B1.grown g3 B1.size (fun i hi => by simp [Value.ownBlock] at hi; omega)
            have z3 : base ≤ w3.heap.size := Nat.le_trans hbs q3.size
            have n3 : ∀ i, v1.ownBlock = some i → wd.heap.size ≤ i := fun i hi => by
              rcases a3 with e | e
              · rw [e] at hi; simp [Value.ownBlock] at hi; omega
              · rw [e] at hi; simp at hi; omega
            have xl : RdG (w3.alloc (.cells #[(.slice (some ⟨bx, ox, none⟩) 2 cx)] 38)) (.slice (some ⟨w3.heap.size, 0, none⟩) 1 1) [X] := (OwG.one' w3 X hX base z3).rd
            have ol : OwG (w3.alloc (.cells #[(.slice (some ⟨bx, ox, none⟩) 2 cx)] 38)) base v1 T := OwR.below o3 ((Below.refl _ _).alloc (Nat.le_refl _) _)
            have ql : Below wd.heap.size wd (w3.alloc (.cells #[(.slice (some ⟨bx, ox, none⟩) 2 cx)] 38)) := q3.alloc q3.size _
            have zl : base ≤ (w3.alloc (.cells #[(.slice (some ⟨bx, ox, none⟩) 2 cx)] 38)).heap.size := Nat.le_trans hbs ql.size
            clear g3 a3
          | refine step_appG ((wd.drew.alloc (.cells #[] 38)).alloc (.cells #[(.slice (some ⟨bx, ox, none⟩) 2 cx)] 38)) rfl (.tmp 21) (.tmp 24) rfl base (.slice (some ⟨wd.heap.size, 0, none⟩) 0 0) [] T (by simp [Act.eval]) own2 (some ⟨g, 0, none⟩) cap (by simp [Act.eval, hTl]) t2 hl0 b2 ?_
            intro v1 w3 o3 g3 a3
            have o3 : OwG w3 base v1 T := o3
            have q3 : Below wd.heap.size wd w3 := B2.grown g3 B2.size (fun i hi => by simp [Value.ownBlock] at hi; omega)
            have z3 : base ≤ w3.heap.size := Nat.le_trans hbs q3.size
            have n3 : ∀ i, v1.ownBlock = some i → wd.heap.size ≤ i := fun i hi => by
              rcases a3 with e | e
              · rw [e] at hi; simp [Value.ownBlock] at hi; omega
              · rw [e] at hi; simp at hi; omega
            have x4 := (OwR.other (u := (.slice (some ⟨wd.heap.size, 0, none⟩) 0 0)) x2 g3 AP2.out).rd
            clear g3 a3
          | refine step_appG ((wd.drew.alloc (.cells #[(.slice (some ⟨bx, ox, none⟩) 2 cx)] 38)).alloc (.cells #[] 38)) rfl (.tmp 21) (.tmp 24) rfl base (.slice (some ⟨wd.heap.size + 1, 0, none⟩) 0 0) [] T (by simp [Act.eval]) own3 (some ⟨g, 0, none⟩) cap (by simp [Act.eval, hTl]) t3 hl0 b3 ?_
            intro v1 w3 o3 g3 a3
            have o3 : OwG w3 base v1 T := o3
            have q3 : Below wd.heap.size wd w3 := B3.grown g3 B3.size (fun i hi => by simp [Value.ownBlock] at hi; omega)
            have z3 : base ≤ w3.heap.size := Nat.le_trans hbs q3.size
            have n3 : ∀ i, v1.ownBlock = some i → wd.heap.size ≤ i := fun i hi => by
              rcases a3 with e | e
              · rw [e] at hi; simp [Value.ownBlock] at hi; omega
              · rw [e] at hi; simp at hi; omega
            have x4 := (OwR.other (u := (.slice (some ⟨wd.heap.size + 1, 0, none⟩) 0 0)) x3 g3 AP3.out).rd
            clear g3 a3
          | refine step_appG (w3.alloc (.cells #[(.slice (some ⟨bx, ox, none⟩) 2 cx)] 38)) rfl (.tmp 25) (.tmp 27) rfl base v1 T [X] (by simp [Act.eval]) ol (some ⟨w3.heap.size, 0, none⟩) 1 (by simp [Act.eval]) xl hl2 zl ?_
            intro v2 w4 o4 g4 a4
            have o4 : OwG w4 base v2 (T ++ [X]) := o4
            have q4 : Below wd.heap.size wd w4 := ql.grown g4 ql.size n3
            have z4 : base ≤ w4.heap.size := Nat.le_trans hbs q4.size
            have d4 := HDX.out.below q4
            have n4 : ∀ i, v2.ownBlock = some i → wd.heap.size ≤ i := fun i hi => by
              rcases a4 with e | e
              · rw [e] at hi; exact n3 i hi
              · rw [e] at hi; have := q3.size; simp at hi; omega
            clear g4 a4
          | refine step_appG w3 rfl (.tmp 25) (.tmp 27) rfl base v1 T [X] (by simp [Act.eval]) o3 (some ⟨wd.heap.size + 1, 0, none⟩) 1 (by simp [Act.eval]) x4 hl2 z3 ?_
            intro v2 w4 o4 g4 a4
            have o4 : OwG w4 base v2 (T ++ [X]) := o4
            have q4 : Below wd.heap.size wd w4 := q3.grown g4 q3.size n3
            have z4 : base ≤ w4.heap.size := Nat.le_trans hbs q4.size
            have d4 := HDX.out.below q4
            have n4 : ∀ i, v2.ownBlock = some i → wd.heap.size ≤ i := fun i hi => by
              rcases a4 with e | e
              · rw [e] at hi; exact n3 i hi
              · rw [e] at hi; have := q3.size; simp at hi; omega
            clear g4 a4
          | refine step_appG w3 rfl (.tmp 25) (.tmp 27) rfl base v1 T [X] (by simp [Act.eval]) o3 (some ⟨wd.heap.size, 0, none⟩) 1 (by simp [Act.eval]) x4 hl2 z3 ?_
            intro v2 w4 o4 g4 a4
            have o4 : OwG w4 base v2 (T ++ [X]) := o4
            have q4 : Below wd.heap.size wd w4 := q3.grown g4 q3.size n3
            have z4 : base ≤ w4.heap.size := Nat.le_trans hbs q4.size
            have d4 := HDX.out.below q4
            have n4 : ∀ i, v2.ownBlock = some i → wd.heap.size ≤ i := fun i hi => by
              rcases a4 with e | e
              · rw [e] at hi; exact n3 i hi
              · rw [e] at hi; have := q3.size; simp at hi; omega
            clear g4 a4
          | refine step_appG w4 rfl (.tmp 28) (.tmp 31) rfl base v2 (T ++ [X]) D (by simp [Act.eval]) o4 (some ⟨g, P, none⟩) (cap - P) (by first | (simp [Act.eval, HDD.out]; done) | (simp [Act.eval, Act.put, HDD.out]; intros; omega)) d4 hl4 z4 ?_
            intro v3 w5 o5 g5 a5
            have o5 : OwG w5 base v3 (T ++ [X] ++ D) := o5
            have q5 : Below wd.heap.size wd w5 := q4.grown g5 q4.size n4
            have HQ5 := Lib.hid q5
            obtain ⟨A6, cap6, rfl, _⟩ := OwR.rd o5
            have HO5 := Lib.hid (show OwG w5 base (.slice A6 (Ps.length + 1) cap6) _ from by rw [← HLen.out]; exact o5)
            rw [HLen.out]
            clear o5 q5 g5 a5)
        all_goals (
          go_wp2_with fail
          go_ret
          exact put_done HBASE.out HBD.out HO5.out HQ5.out HPUT.out)
      · have hPe : P = cap := by omega
        have hD0 : D = [] := List.eq_nil_of_length_eq_zero (by have := HDD.out; omega)
        subst hD0
        subst hPe
        clear HRX hPge
        go_region_law (first
          | refine step_appG (wd.drew.alloc (.cells #[] 38)) rfl (.tmp 21) (.tmp 24) rfl base (.slice (some ⟨wd.heap.size, 0, none⟩) 0 0) [] T (by simp [Act.eval]) own1 (some ⟨g, 0, none⟩) P (by simp [Act.eval, hTl]) t1 hl0 b1 ?_
            intro v1 w3 o3 g3 a3
            have o3 : OwG w3 base v1 T := o3
            have q3 : Below wd.heap.size wd w3 := B1.grown g3 B1.size (fun i hi => by simp [Value.ownBlock] at hi; omega)
            have z3 : base ≤ w3.heap.size := Nat.le_trans hbs q3.size
            have n3 : ∀ i, v1.ownBlock = some i → wd.heap.size ≤ i := fun i hi => by
              rcases a3 with e | e
              · rw [e] at hi; simp [Value.ownBlock] at hi; omega
              · rw [e] at hi; simp at hi; omega
            have xl : RdG (w3.alloc (.cells #[(.slice (some ⟨bx, ox, none⟩) 2 cx)] 38)) (.slice (some ⟨w3.heap.size, 0, none⟩) 1 1) [X] := (OwG.one' w3 X hX base z3).rd
            have ol : OwG (w3.alloc (.cells #[(.slice (some ⟨bx, ox, none⟩) 2 cx)] 38)) base v1 T := OwR.below o3 ((Below.refl _ _).alloc (Nat.le_refl _) _)
            have ql : Below wd.heap.size wd (w3.alloc (.cells #[(.slice (some ⟨bx, ox, none⟩) 2 cx)] 38)) := q3.alloc q3.size _
            have zl : base ≤ (w3.alloc (.cells #[(.slice (some ⟨bx, ox, none⟩) 2 cx)] 38)).heap.size := Nat.le_trans hbs ql.size
            clear g3 a3
          | refine step_appG ((wd.drew.alloc (.cells #[] 38)).alloc (.cells #[(.slice (some ⟨bx, ox, none⟩) 2 cx)] 38)) rfl (.tmp 21) (.tmp 24) rfl base (.slice (some ⟨wd.heap.size, 0, none⟩) 0 0) [] T (by simp [Act.eval]) own2 (some ⟨g, 0, none⟩) P (by simp [Act.eval, hTl]) t2 hl0 b2 ?_
            intro v1 w3 o3 g3 a3
            have o3 : OwG w3 base v1 T := o3
            have q3 : Below wd.heap.size wd w3 := B2.grown g3 B2.size (fun i hi => by simp [Value.ownBlock] at hi; omega)
            have z3 : base ≤ w3.heap.size := Nat.le_trans hbs q3.size
            have n3 : ∀ i, v1.ownBlock = some i → wd.heap.size ≤ i := fun i hi => by
              rcases a3 with e | e
              · rw [e] at hi; simp [Value.ownBlock] at hi; omega
              · rw [e] at hi; simp at hi; omega
            have x4 := (OwR.other (u := (.slice (some ⟨wd.heap.size, 0, none⟩) 0 0)) x2 g3 AP2.out).rd
            clear g3 a3
          | refine step_appG ((wd.drew.alloc (.cells #[(.slice (some ⟨bx, ox, none⟩) 2 cx)] 38)).alloc (.cells #[] 38)) rfl (.tmp 21) (.tmp 24) rfl base (.slice (some ⟨wd.heap.size + 1, 0, none⟩) 0 0) [] T (by simp [Act.eval]) own3 (some ⟨g, 0, none⟩) P (by simp [Act.eval, hTl]) t3 hl0 b3 ?_
            intro v1 w3 o3 g3 a3
            have o3 : OwG w3 base v1 T := o3
            have q3 : Below wd.heap.size wd w3 := B3.grown g3 B3.size (fun i hi => by simp [Value.ownBlock] at hi; omega)
            have z3 : base ≤ w3.heap.size := Nat.le_trans hbs q3.size
            have n3 : ∀ i, v1.ownBlock = some i → wd.heap.size ≤ i := fun i hi => by
              rcases a3 with e | e
              · rw [e] at hi; simp [Value.ownBlock] at hi; omega
              · rw [e] at hi; simp at hi; omega
            have x4 := (OwR.other (u := (.slice (some ⟨wd.heap.size + 1, 0, none⟩) 0 0)) x3 g3 AP3.out).rd
            clear g3 a3
          | refine step_appG (w3.alloc (.cells #[(.slice (some ⟨bx, ox, none⟩) 2 cx)] 38)) rfl (.tmp 25) (.tmp 27) rfl base v1 T [X] (by simp [Act.eval]) ol (some ⟨w3.heap.size, 0, none⟩) 1 (by simp [Act.eval]) xl hl2 zl ?_
            intro v2 w4 o4 g4 a4
            have o4 : OwG w4 base v2 (T ++ [X]) := o4
            have q4 : Below wd.heap.size wd w4 := ql.grown g4 ql.size n3
            have z4 : base ≤ w4.heap.size := Nat.le_trans hbs q4.size
            have d4 : RdG w4 (.slice (some ⟨g, 0, none⟩) 0 0) [] := ⟨_, 0, rfl, Nat.le_refl _, by simp, fun h => by simp at h⟩
            have n4 : ∀ i, v2.ownBlock = some i → wd.heap.size ≤ i := fun i hi => by
              rcases a4 with e | e
              · rw [e] at hi; exact n3 i hi
              · rw [e] at hi; have := q3.size; simp at hi; omega
            clear g4 a4
          | refine step_appG w3 rfl (.tmp 25) (.tmp 27) rfl base v1 T [X] (by simp [Act.eval]) o3 (some ⟨wd.heap.size + 1, 0, none⟩) 1 (by simp [Act.eval]) x4 hl2 z3 ?_
            intro v2 w4 o4 g4 a4
            have o4 : OwG w4 base v2 (T ++ [X]) := o4
            have q4 : Below wd.heap.size wd w4 := q3.grown g4 q3.size n3
            have z4 : base ≤ w4.heap.size := Nat.le_trans hbs q4.size
            have d4 : RdG w4 (.slice (some ⟨g, 0, none⟩) 0 0) [] := ⟨_, 0, rfl, Nat.le_refl _, by simp, fun h => by simp at h⟩
            have n4 : ∀ i, v2.ownBlock = some i → wd.heap.size ≤ i := fun i hi => by
              rcases a4 with e | e
              · rw [e] at hi; exact n3 i hi
              · rw [e] at hi; have := q3.size; simp at hi; omega
            clear g4 a4
          | refine step_appG w3 rfl (.tmp 25) (.tmp 27) rfl base v1 T [X] (by simp [Act.eval]) o3 (some ⟨wd.heap.size, 0, none⟩) 1 (by simp [Act.eval]) x4 hl2 z3 ?_
            intro v2 w4 o4 g4 a4
            have o4 : OwG w4 base v2 (T ++ [X]) := o4
            have q4 : Below wd.heap.size wd w4 := q3.grown g4 q3.size n3
            have z4 : base ≤ w4.heap.size := Nat.le_trans hbs q4.size
            have d4 : RdG w4 (.slice (some ⟨g, 0, none⟩) 0 0) [] := ⟨_, 0, rfl, Nat.le_refl _, by simp, fun h => by simp at h⟩
            have n4 : ∀ i, v2.ownBlock = some i → wd.heap.size ≤ i := fun i hi => by
              rcases a4 with e | e
              · rw [e] at hi; exact n3 i hi
              · rw [e] at hi; have := q3.size; simp at hi; omega
            clear g4 a4
          | refine step_appG w4 rfl (.tmp 28) (.tmp 31) rfl base v2 (T ++ [X]) [] (by simp [Act.eval]) o4 (some ⟨g, 0, none⟩) 0 (by simp [Act.eval]) d4 hl5 z4 ?_
            intro v3 w5 o5 g5 a5
            have o5 : OwG w5 base v3 (T ++ [X] ++ []) := o5
            have q5 : Below wd.heap.size wd w5 := q4.grown g5 q4.size n4
            have HQ5 := Lib.hid q5
            obtain ⟨A6, cap6, rfl, _⟩ := OwR.rd o5
            have HO5 := Lib.hid (show OwG w5 base (.slice A6 (Ps.length + 1) cap6) _ from by rw [← HLen.out]; exact o5)
            rw [HLen.out]
            clear o5 q5 g5 a5)
        all_goals (
          go_wp2_with fail
          go_ret
          exact put_done HBASE.out HBD.out HO5.out HQ5.out HPUT.out)
    · have hm : P - 1 < Ps.length := by omega
      have hq1 : ((P : Int) - 1) = ((P - 1 : Nat) : Int) := by omega
      have hq2 : ((P - 1 : Nat) : Int) < (Ps.length : Int) := by omega
      have k1 : (0 : Int) < (P : Int) := by omega
      have k2 : decide ((0 : Int) < (P : Int)) = true := decide_eq_true k1
      have k3 : decide (0 < P) = true := decide_eq_true (by omega)
      have hmem := List.getElem_mem hm
      have cq : w.cell? ⟨g, P - 1, none⟩ = some Ps[P - 1].1 := HS.out.cellAt _ hm
      obtain ⟨a, b, hab⟩ := two_of (H2.out _ hmem)
      have hrow := (HR.out.1 _ hmem).rd
      rw [hab] at hrow
      obtain ⟨bu, ou, cu, hue, _, _, _⟩ := hrow.two
      have HC := Lib.hid (fun q2 : Nat => l7Before_any c d a b (.slice (some ⟨bx, ox, none⟩) 2 cx) Ps[P - 1].1 (w.drewN q2) HXR.out hrow)
      have hpos : posG dP ltP Ps ((.slice (some ⟨bx, ox, none⟩) 2 cx), [c, d]) P = if ltP ((.slice (some ⟨bx, ox, none⟩) 2 cx), [c, d]) Ps[P - 1] = true then posG dP ltP Ps ((.slice (some ⟨bx, ox, none⟩) 2 cx), [c, d]) (P - 1) else P := by
        obtain ⟨m, rfl⟩ : ∃ m, P = m + 1 := ⟨P - 1, by omega⟩
        show (if ltP ((.slice (some ⟨bx, ox, none⟩) 2 cx), [c, d]) (Ps.getD m dP) = true then posG dP ltP Ps ((.slice (some ⟨bx, ox, none⟩) 2 cx), [c, d]) m else m + 1) = _
        rw [getD_of (show m < Ps.length by omega)]; rfl
      have hlt : ltP ((.slice (some ⟨bx, ox, none⟩) 2 cx), [c, d]) Ps[P - 1] = decide (cmpL [c, d] [a, b] < 0) := by unfold ltP ltL; rw [hab]
      rw [hlt] at hpos
      rw [hue] at cq HC
      clear hmem hrow hab hue hlt
      by_cases hC : cmpL [c, d] [a, b] < 0
      · rw [decide_eq_true hC] at HC hpos
        have HN := Lib.hid (show posG dP ltP Ps ((.slice (some ⟨bx, ox, none⟩) 2 cx), [c, d]) (P - 1) = posG dP ltP Ps ((.slice (some ⟨bx, ox, none⟩) 2 cx), [c, d]) Ps.length by rw [← HJ.out, hpos, if_pos rfl])
        clear hC hpos hP0
        go_wp2_with (go_at_call 233; refine (HC.out _).mono ?_; rintro e w' ⟨rfl, q2, rfl⟩; rw [drewN_two])
        go_roundw
        case rel => exact ⟨P - 1, by omega, by go_num, HN, _, rfl⟩
        case measure => simp [intOf]; omega
      · rw [decide_eq_false hC] at HC hpos
        have HPS := Lib.hid (show posG dP ltP Ps ((.slice (some ⟨bx, ox, none⟩) 2 cx), [c, d]) Ps.length = P by rw [← HJ.out, hpos]; rfl)
        clear hC hpos hP0
        go_wp2_with (go_at_call 233; refine (HC.out _).mono ?_; rintro e w' ⟨rfl, q2, rfl⟩; rw [drewN_two])
        clear HC
        generalize Q + q2 = Q
        have hwz : (w.drewN Q).heap.size = w.heap.size := rfl
        have sD0 : Spine (w.drewN Q) b0 (.slice (some ⟨g, 0, none⟩) Ps.length cap) Ps := HS.out
        have BD0 : Below w.heap.size w (w.drewN Q) := below_draws w Q
        generalize w.drewN Q = wd at hwz sD0 BD0 ⊢
        obtain ⟨base, hbase⟩ : ∃ n, n = w.heap.size := ⟨_, rfl⟩
        have hbs : base ≤ wd.heap.size := by omega
        have HBASE := Lib.hid hbase
        have HBD := Lib.hid BD0
        have oD : OwG wd b0 (.slice (some ⟨g, 0, none⟩) Ps.length cap) Us := (OwR.sub_ HU.out).1 sD0
        have hrdD := OwR.rd oD
        have hPc : P ≤ cap := by omega
        obtain ⟨T, hT⟩ : ∃ T, T = Us.take P := ⟨_, rfl⟩
        obtain ⟨D, hD⟩ : ∃ D, D = Us.drop P := ⟨_, rfl⟩
        have hTl : T.length = P := by rw [hT, List.length_take, HUL.out]; omega
        have hDl : D.length = Ps.length - P := by rw [hD, List.length_drop, HUL.out]
        have hrdT : RdG wd (.slice (some ⟨g, 0, none⟩) T.length cap) T := by rw [hTl, hT]; exact hrdD.take_ P (by rw [HUL.out]; exact hPk)
        have HRX : Hid (P < cap → RdG wd (.slice (some ⟨g, P, none⟩) D.length (cap - P)) D) := fun _ => by
          have := hrdD.drop_ P (by rw [HUL.out]; exact hPk)
          rw [Nat.zero_add, HUL.out, ← hD] at this
          rw [hDl]; exact this
        have HPUT := Lib.hid (show (T ++ [X] ++ D).map Subtype.val = (putG dP ltP Ps ((.slice (some ⟨bx, ox, none⟩) 2 cx), [c, d])).map (·.1) by
          have hU := HU.out
          unfold putG
          rw [HPS.out, hT, hD]
          simp only [List.map_append, List.map_take, List.map_drop, hU, hX, List.map_cons, List.append_assoc, List.cons_append, List.nil_append])
        have B1 : Below wd.heap.size wd (wd.drew.alloc (.cells #[] 38)) := (below_draws wd 1).alloc (Nat.le_refl _) _
        have s1 : (wd.drew.alloc (.cells #[] 38)).heap.size = wd.heap.size + 1 := by simp
        have B2 : Below wd.heap.size wd ((wd.drew.alloc (.cells #[] 38)).alloc (.cells #[(.slice (some ⟨bx, ox, none⟩) 2 cx)] 38)) := B1.alloc B1.size _
        have BV : Below wd.heap.size wd (wd.drew.alloc (.cells #[(.slice (some ⟨bx, ox, none⟩) 2 cx)] 38)) := (below_draws wd 1).alloc (Nat.le_refl _) _
        have sV : (wd.drew.alloc (.cells #[(.slice (some ⟨bx, ox, none⟩) 2 cx)] 38)).heap.size = wd.heap.size + 1 := by simp
        have B3 : Below wd.heap.size wd ((wd.drew.alloc (.cells #[(.slice (some ⟨bx, ox, none⟩) 2 cx)] 38)).alloc (.cells #[] 38)) := BV.alloc BV.size _
        have own1 : OwG (wd.drew.alloc (.cells #[] 38)) base (.slice (some ⟨wd.heap.size, 0, none⟩) 0 0) [] := OwG.none_ wd.drew base hbs
        have own2 : OwG ((wd.drew.alloc (.cells #[] 38)).alloc (.cells #[(.slice (some ⟨bx, ox, none⟩) 2 cx)] 38)) base (.slice (some ⟨wd.heap.size, 0, none⟩) 0 0) [] := OwR.below own1 ((Below.refl _ _).alloc (Nat.le_refl _) _)
        have x2 : OwG ((wd.drew.alloc (.cells #[] 38)).alloc (.cells #[(.slice (some ⟨bx, ox, none⟩) 2 cx)] 38)) base (.slice (some ⟨wd.heap.size + 1, 0, none⟩) 1 1) [X] := by
          have := OwG.one' (wd.drew.alloc (.cells #[] 38)) X hX base (by omega)
          rw [s1] at this; exact this
        have own3 : OwG ((wd.drew.alloc (.cells #[(.slice (some ⟨bx, ox, none⟩) 2 cx)] 38)).alloc (.cells #[] 38)) base (.slice (some ⟨wd.heap.size + 1, 0, none⟩) 0 0) [] := by
          have := OwG.none_ (wd.drew.alloc (.cells #[(.slice (some ⟨bx, ox, none⟩) 2 cx)] 38)) base (by omega)
          rw [sV] at this; exact this
        have x3 : OwG ((wd.drew.alloc (.cells #[(.slice (some ⟨bx, ox, none⟩) 2 cx)] 38)).alloc (.cells #[] 38)) base (.slice (some ⟨wd.heap.size, 0, none⟩) 1 1) [X] := OwR.below (OwG.one' wd.drew X hX base hbs) ((Below.refl _ _).alloc (Nat.le_refl _) _)
        have hl0 : ([] : List {v : Value // v.oneCell' = true}).length + T.length ≤ 1099511627776 := by rw [hTl]; simp; omega
        have hl2 : T.length + [X].length ≤ 1099511627776 := by rw [hTl]; simp; omega
        have hl4 : (T ++ [X]).length + D.length ≤ 1099511627776 := by rw [List.length_append, hTl, hDl]; simp; omega
        have hl5 : (T ++ [X]).length + ([] : List {v : Value // v.oneCell' = true}).length ≤ 1099511627776 := by rw [List.length_append, hTl]; simp; omega
        have AP2 : Hid (Apart (.slice (some ⟨wd.heap.size + 1, 0, none⟩) 1 1) (.slice (some ⟨wd.heap.size, 0, none⟩) 0 0)) := Lib.hid (fun g h1 h2 => by simp [Value.ownBlock] at h1 h2; omega)
        have AP3 : Hid (Apart (.slice (some ⟨wd.heap.size, 0, none⟩) 1 1) (.slice (some ⟨wd.heap.size + 1, 0, none⟩) 0 0)) := Lib.hid (fun g h1 h2 => by simp [Value.ownBlock] at h1 h2; omega)
        have t1 := hrdT.below B1
        have t2 := hrdT.below B2
        have t3 := hrdT.below B3
        have b1 : base ≤ (wd.drew.alloc (.cells #[] 38)).heap.size := by omega
        have b2 : base ≤ ((wd.drew.alloc (.cells #[] 38)).alloc (.cells #[(.slice (some ⟨bx, ox, none⟩) 2 cx)] 38)).heap.size := Nat.le_trans hbs B2.size
        have b3 : base ≤ ((wd.drew.alloc (.cells #[(.slice (some ⟨bx, ox, none⟩) 2 cx)] 38)).alloc (.cells #[] 38)).heap.size := Nat.le_trans hbs B3.size
        have HDD := Lib.hid hDl
        have HLen := Lib.hid (show (T ++ [X] ++ D).length = Ps.length + 1 by rw [List.length_append, List.length_append, hTl, hDl]; simp; omega)
        clear hT hD hrdD sD0 oD s1 sV hrdT BD0 hDl hbase hwz
        rcases Nat.lt_or_ge P cap with hPlt | hPge
        · have HDX := Lib.hid (HRX.out hPlt)
          go_region_law (first
            | refine step_appG (wd.drew.alloc (.cells #[] 38)) rfl (.tmp 21) (.tmp 24) rfl base (.slice (some ⟨wd.heap.size, 0, none⟩) 0 0) [] T (by simp [Act.eval]) own1 (some ⟨g, 0, none⟩) cap (by simp [Act.eval, hTl]) t1 hl0 b1 ?_
              intro v1 w3 o3 g3 a3
              have o3 : OwG w3 base v1 T := o3
              have q3 : Below wd.heap.size wd w3 := B1.grown g3 B1.size (fun i hi => by simp [Value.ownBlock] at hi; omega)
              have z3 : base ≤ w3.heap.size := Nat.le_trans hbs q3.size
              have n3 : ∀ i, v1.ownBlock = some i → wd.heap.size ≤ i := fun i hi => by
                rcases a3 with e | e
                · rw [e] at hi; simp [Value.ownBlock] at hi; omega
                · rw [e] at hi; simp at hi; omega
              have xl : RdG (w3.alloc (.cells #[(.slice (some ⟨bx, ox, none⟩) 2 cx)] 38)) (.slice (some ⟨w3.heap.size, 0, none⟩) 1 1) [X] := (OwG.one' w3 X hX base z3).rd
              have ol : OwG (w3.alloc (.cells #[(.slice (some ⟨bx, ox, none⟩) 2 cx)] 38)) base v1 T := OwR.below o3 ((Below.refl _ _).alloc (Nat.le_refl _) _)
              have ql : Below wd.heap.size wd (w3.alloc (.cells #[(.slice (some ⟨bx, ox, none⟩) 2 cx)] 38)) := q3.alloc q3.size _
              have zl : base ≤ (w3.alloc (.cells #[(.slice (some ⟨bx, ox, none⟩) 2 cx)] 38)).heap.size := Nat.le_trans hbs ql.size
              clear g3 a3
            | refine step_appG ((wd.drew.alloc (.cells #[] 38)).alloc (.cells #[(.slice (some ⟨bx, ox, none⟩) 2 cx)] 38)) rfl (.tmp 21) (.tmp 24) rfl base (.slice (some ⟨wd.heap.size, 0, none⟩) 0 0) [] T (by simp [Act.eval]) own2 (some ⟨g, 0, none⟩) cap (by simp [Act.eval, hTl]) t2 hl0 b2 ?_
              intro v1 w3 o3 g3 a3
              have o3 : OwG w3 base v1 T := o3
              have q3 : Below wd.heap.size wd w3 := B2.grown g3 B2.size (fun i hi => by simp [Value.ownBlock] at hi; omega)
              have z3 : base ≤ w3.heap.size := Nat.le_trans hbs q3.size
              have n3 : ∀ i, v1.ownBlock = some i → wd.heap.size ≤ i := fun i hi => by
                rcases a3 with e | e
                · rw [e] at hi; simp [Value.ownBlock] at hi; omega
                · rw [e] at hi; simp at hi; omega
              have x4 := (OwR.other (u := (.slice (some ⟨wd.heap.size, 0, none⟩) 0 0)) x2 g3 AP2.out).rd
              clear g3 a3
            | refine step_appG ((wd.drew.alloc (.cells #[(.slice (some ⟨bx, ox, none⟩) 2 cx)] 38)).alloc (.cells #[] 38)) rfl (.tmp 21) (.tmp 24) rfl base (.slice (some ⟨wd.heap.size + 1, 0, none⟩) 0 0) [] T (by simp [Act.eval]) own3 (some ⟨g, 0, none⟩) cap (by simp [Act.eval, hTl]) t3 hl0 b3 ?_
              intro v1 w3 o3 g3 a3
              have o3 : OwG w3 base v1 T := o3
              have q3 : Below wd.heap.size wd w3 := B3.grown g3 B3.size (fun i hi => by simp [Value.ownBlock] at hi; omega)
              have z3 : base ≤ w3.heap.size := Nat.le_trans hbs q3.size
              have n3 : ∀ i, v1.ownBlock = some i → wd.heap.size ≤ i := fun i hi => by
                rcases a3 with e | e
                · rw [e] at hi; simp [Value.ownBlock] at hi; omega
                · rw [e] at hi; simp at hi; omega
              have x4 := (OwR.other (u := (.slice (some ⟨wd.heap.size + 1, 0, none⟩) 0 0)) x3 g3 AP3.out).rd
              clear g3 a3
            | refine step_appG (w3.alloc (.cells #[(.slice (some ⟨bx, ox, none⟩) 2 cx)] 38)) rfl (.tmp 25) (.tmp 27) rfl base v1 T [X] (by simp [Act.eval]) ol (some ⟨w3.heap.size, 0, none⟩) 1 (by simp [Act.eval]) xl hl2 zl ?_
              intro v2 w4 o4 g4 a4
              have o4 : OwG w4 base v2 (T ++ [X]) := o4
              have q4 : Below wd.heap.size wd w4 := ql.grown g4 ql.size n3
              have z4 : base ≤ w4.heap.size := Nat.le_trans hbs q4.size
              have d4 := HDX.out.below q4
              have n4 : ∀ i, v2.ownBlock = some i → wd.heap.size ≤ i := fun i hi => by
                rcases a4 with e | e
                · rw [e] at hi; exact n3 i hi
                · rw [e] at hi; have := q3.size; simp at hi; omega
              clear g4 a4
            | refine step_appG w3 rfl (.tmp 25) (.tmp 27) rfl base v1 T [X] (by simp [Act.eval]) o3 (some ⟨wd.heap.size + 1, 0, none⟩) 1 (by simp [Act.eval]) x4 hl2 z3 ?_
              intro v2 w4 o4 g4 a4
              have o4 : OwG w4 base v2 (T ++ [X]) := o4
              have q4 : Below wd.heap.size wd w4 := q3.grown g4 q3.size n3
              have z4 : base ≤ w4.heap.size := Nat.le_trans hbs q4.size
              have d4 := HDX.out.below q4
              have n4 : ∀ i, v2.ownBlock = some i → wd.heap.size ≤ i := fun i hi => by
                rcases a4 with e | e
                · rw [e] at hi; exact n3 i hi
                · rw [e] at hi; have := q3.size; simp at hi; omega
              clear g4 a4
            | refine step_appG w3 rfl (.tmp 25) (.tmp 27) rfl base v1 T [X] (by simp [Act.eval]) o3 (some ⟨wd.heap.size, 0, none⟩) 1 (by simp [Act.eval]) x4 hl2 z3 ?_
              intro v2 w4 o4 g4 a4
              have o4 : OwG w4 base v2 (T ++ [X]) := o4
              have q4 : Below wd.heap.size wd w4 := q3.grown g4 q3.size n3
              have z4 : base ≤ w4.heap.size := Nat.le_trans hbs q4.size
              have d4 := HDX.out.below q4
              have n4 : ∀ i, v2.ownBlock = some i → wd.heap.size ≤ i := fun i hi => by
                rcases a4 with e | e
                · rw [e] at hi; exact n3 i hi
                · rw [e] at hi; have := q3.size; simp at hi; omega
              clear g4 a4
            | refine step_appG w4 rfl (.tmp 28) (.tmp 31) rfl base v2 (T ++ [X]) D (by simp [Act.eval]) o4 (some ⟨g, P, none⟩) (cap - P) (by first | (simp [Act.eval, HDD.out]; done) | (simp [Act.eval, HDD.out]; intros; omega)) d4 hl4 z4 ?_
              intro v3 w5 o5 g5 a5
              have o5 : OwG w5 base v3 (T ++ [X] ++ D) := o5
              have q5 : Below wd.heap.size wd w5 := q4.grown g5 q4.size n4
              have HQ5 := Lib.hid q5
              obtain ⟨A6, cap6, rfl, _⟩ := OwR.rd o5
              have HO5 := Lib.hid (show OwG w5 base (.slice A6 (Ps.length + 1) cap6) _ from by rw [← HLen.out]; exact o5)
              rw [HLen.out]
              clear o5 q5 g5 a5)
          all_goals (
            go_wp2_with fail
            go_ret
            exact put_done HBASE.out HBD.out HO5.out HQ5.out HPUT.out)
        · have hPe : P = cap := by omega
          have hD0 : D = [] := List.eq_nil_of_length_eq_zero (by have := HDD.out; omega)
          subst hD0
          subst hPe
          clear HRX hPge
          go_region_law (first
            | refine step_appG (wd.drew.alloc (.cells #[] 38)) rfl (.tmp 21) (.tmp 24) rfl base (.slice (some ⟨wd.heap.size, 0, none⟩) 0 0) [] T (by simp [Act.eval]) own1 (some ⟨g, 0, none⟩) P (by simp [Act.eval, hTl]) t1 hl0 b1 ?_
              intro v1 w3 o3 g3 a3
              have o3 : OwG w3 base v1 T := o3
              have q3 : Below wd.heap.size wd w3 := B1.grown g3 B1.size (fun i hi => by simp [Value.ownBlock] at hi; omega)
              have z3 : base ≤ w3.heap.size := Nat.le_trans hbs q3.size
              have n3 : ∀ i, v1.ownBlock = some i → wd.heap.size ≤ i := fun i hi => by
                rcases a3 with e | e
                · rw [e] at hi; simp [Value.ownBlock] at hi; omega
                · rw [e] at hi; simp at hi; omega
              have xl : RdG (w3.alloc (.cells #[(.slice (some ⟨bx, ox, none⟩) 2 cx)] 38)) (.slice (some ⟨w3.heap.size, 0, none⟩) 1 1) [X] := (OwG.one' w3 X hX base z3).rd
              have ol : OwG (w3.alloc (.cells #[(.slice (some ⟨bx, ox, none⟩) 2 cx)] 38)) base v1 T := OwR.below o3 ((Below.refl _ _).alloc (Nat.le_refl _) _)
              have ql : Below wd.heap.size wd (w3.alloc (.cells #[(.slice (some ⟨bx, ox, none⟩) 2 cx)] 38)) := q3.alloc q3.size _
              have zl : base ≤ (w3.alloc (.cells #[(.slice (some ⟨bx, ox, none⟩) 2 cx)] 38)).heap.size := Nat.le_trans hbs ql.size
              clear g3 a3
            | refine step_appG ((wd.drew.alloc (.cells #[] 38)).alloc (.cells #[(.slice (some ⟨bx, ox, none⟩) 2 cx)] 38)) rfl (.tmp 21) (.tmp 24) rfl base (.slice (some ⟨wd.heap.size, 0, none⟩) 0 0) [] T (by simp [Act.eval]) own2 (some ⟨g, 0, none⟩) P (by simp [Act.eval, hTl]) t2 hl0 b2 ?_
              intro v1 w3 o3 g3 a3
              have o3 : OwG w3 base v1 T := o3
              have q3 : Below wd.heap.size wd w3 := B2.grown g3 B2.size (fun i hi => by simp [Value.ownBlock] at hi; omega)
              have z3 : base ≤ w3.heap.size := Nat.le_trans hbs q3.size
              have n3 : ∀ i, v1.ownBlock = some i → wd.heap.size ≤ i := fun i hi => by
                rcases a3 with e | e
                · rw [e] at hi; simp [Value.ownBlock] at hi; omega
                · rw [e] at hi; simp at hi; omega
              have x4 := (OwR.other (u := (.slice (some ⟨wd.heap.size, 0, none⟩) 0 0)) x2 g3 AP2.out).rd
              clear g3 a3
            | refine step_appG ((wd.drew.alloc (.cells #[(.slice (some ⟨bx, ox, none⟩) 2 cx)] 38)).alloc (.cells #[] 38)) rfl (.tmp 21) (.tmp 24) rfl base (.slice (some ⟨wd.heap.size + 1, 0, none⟩) 0 0) [] T (by simp [Act.eval]) own3 (some ⟨g, 0, none⟩) P (by simp [Act.eval, hTl]) t3 hl0 b3 ?_
              intro v1 w3 o3 g3 a3
              have o3 : OwG w3 base v1 T := o3
              have q3 : Below wd.heap.size wd w3 := B3.grown g3 B3.size (fun i hi => by simp [Value.ownBlock] at hi; omega)
              have z3 : base ≤ w3.heap.size := Nat.le_trans hbs q3.size
              have n3 : ∀ i, v1.ownBlock = some i → wd.heap.size ≤ i := fun i hi => by
                rcases a3 with e | e
                · rw [e] at hi; simp [Value.ownBlock] at hi; omega
                · rw [e] at hi; simp at hi; omega
              have x4 := (OwR.other (u := (.slice (some ⟨wd.heap.size + 1, 0, none⟩) 0 0)) x3 g3 AP3.out).rd
              clear g3 a3
            | refine step_appG (w3.alloc (.cells #[(.slice (some ⟨bx, ox, none⟩) 2 cx)] 38)) rfl (.tmp 25) (.tmp 27) rfl base v1 T [X] (by simp [Act.eval]) ol (some ⟨w3.heap.size, 0, none⟩) 1 (by simp [Act.eval]) xl hl2 zl ?_
              intro v2 w4 o4 g4 a4
              have o4 : OwG w4 base v2 (T ++ [X]) := o4
              have q4 : Below wd.heap.size wd w4 := ql.grown g4 ql.size n3
              have z4 : base ≤ w4.heap.size := Nat.le_trans hbs q4.size
              have d4 : RdG w4 (.slice (some ⟨g, 0, none⟩) 0 0) [] := ⟨_, 0, rfl, Nat.le_refl _, by simp, fun h => by simp at h⟩
              have n4 : ∀ i, v2.ownBlock = some i → wd.heap.size ≤ i := fun i hi => by
                rcases a4 with e | e
                · rw [e] at hi; exact n3 i hi
                · rw [e] at hi; have := q3.size; simp at hi; omega
              clear g4 a4
            | refine step_appG w3 rfl (.tmp 25) (.tmp 27) rfl base v1 T [X] (by simp [Act.eval]) o3 (some ⟨wd.heap.size + 1, 0, none⟩) 1 (by simp [Act.eval]) x4 hl2 z3 ?_
              intro v2 w4 o4 g4 a4
              have o4 : OwG w4 base v2 (T ++ [X]) := o4
              have q4 : Below wd.heap.size wd w4 := q3.grown g4 q3.size n3
              have z4 : base ≤ w4.heap.size := Nat.le_trans hbs q4.size
              have d4 : RdG w4 (.slice (some ⟨g, 0, none⟩) 0 0) [] := ⟨_, 0, rfl, Nat.le_refl _, by simp, fun h => by simp at h⟩
              have n4 : ∀ i, v2.ownBlock = some i → wd.heap.size ≤ i := fun i hi => by
                rcases a4 with e | e
                · rw [e] at hi; exact n3 i hi
                · rw [e] at hi; have := q3.size; simp at hi; omega
              clear g4 a4
            | refine step_appG w3 rfl (.tmp 25) (.tmp 27) rfl base v1 T [X] (by simp [Act.eval]) o3 (some ⟨wd.heap.size, 0, none⟩) 1 (by simp [Act.eval]) x4 hl2 z3 ?_
              intro v2 w4 o4 g4 a4
              have o4 : OwG w4 base v2 (T ++ [X]) := o4
              have q4 : Below wd.heap.size wd w4 := q3.grown g4 q3.size n3
              have z4 : base ≤ w4.heap.size := Nat.le_trans hbs q4.size
              have d4 : RdG w4 (.slice (some ⟨g, 0, none⟩) 0 0) [] := ⟨_, 0, rfl, Nat.le_refl _, by simp, fun h => by simp at h⟩
              have n4 : ∀ i, v2.ownBlock = some i → wd.heap.size ≤ i := fun i hi => by
                rcases a4 with e | e
                · rw [e] at hi; exact n3 i hi
                · rw [e] at hi; have := q3.size; simp at hi; omega
              clear g4 a4
            | refine step_appG w4 rfl (.tmp 28) (.tmp 31) rfl base v2 (T ++ [X]) [] (by simp [Act.eval]) o4 (some ⟨g, 0, none⟩) 0 (by simp [Act.eval]) d4 hl5 z4 ?_
              intro v3 w5 o5 g5 a5
              have o5 : OwG w5 base v3 (T ++ [X] ++ []) := o5
              have q5 : Below wd.heap.size wd w5 := q4.grown g5 q4.size n4
              have HQ5 := Lib.hid q5
              obtain ⟨A6, cap6, rfl, _⟩ := OwR.rd o5
              have HO5 := Lib.hid (show OwG w5 base (.slice A6 (Ps.length + 1) cap6) _ from by rw [← HLen.out]; exact o5)
              rw [HLen.out]
              clear o5 q5 g5 a5)
          all_goals (
            go_wp2_with fail
            go_ret
            exact put_done HBASE.out HBD.out HO5.out HQ5.out HPUT.out)
end Go.Proofs.Ytnkkgfeegaiakaa
