/- Contracts of FormatDiagonals, the program's and the reference's: the same text. Condition: at most 20 rows. -/
import Derived.Test.YtnkkgfeegaiakaaGlue
import Derived.Test.YtnkkgfeegaiakaaTri
import Derived.Deep.RegionLaw
namespace Go.Proofs.Ytnkkgfeegaiakaa
open Go.RowKit
theorem RdSS.two_all {w : World} {A : Option Addr} {m c : Nat} {d : List (List Int)} (h : RdSS w (.slice A m c) d) {k : Nat} (hk : k < d.length) {p q : Int} (hr : rowOf d k = [p, q]) :
    ∃ bl o b1 o1 c1, A = some ⟨bl, o, none⟩ ∧ 2 ≤ c1 ∧ ∀ wq, Below w.heap.size w wq → wq.cell? ⟨bl, o + k, none⟩ = some (.slice (some ⟨b1, o1, none⟩) 2 c1) ∧ wq.cell? ⟨b1, o1, none⟩ = some (.int .i64 p) ∧ wq.cell? ⟨b1, o1 + 1, none⟩ = some (.int .i64 q) := by
  obtain ⟨bl, o, b1, o1, c1, e, q0, q1, q2, q3, _⟩ := h.two hk hr
  have lt : ∀ {b j : Nat} {u : Value}, w.cell? ⟨b, j, none⟩ = some u → b < w.heap.size := fun {b j u} h => by
    rcases Nat.lt_or_ge b w.heap.size with hlt | hge
    · exact hlt
    · simp [World.cell?, Array.getElem?_eq_none hge] at h
  exact ⟨bl, o, b1, o1, c1, e, q1, fun wq hq => ⟨(hq.cell (p := ⟨bl, o + k, none⟩) (lt q0)).trans q0, (hq.cell (p := ⟨b1, o1, none⟩) (lt q2)).trans q2, (hq.cell (p := ⟨b1, o1 + 1, none⟩) (lt q3)).trans q3⟩⟩
def rgB (x : List Int) : Bool := decide (x.length = 2) && (decide (0 ≤ x.getD 0 0 ∧ x.getD 0 0 ≤ 9) && decide (0 ≤ x.getD 1 0 ∧ x.getD 1 0 ≤ 9))
def fdT (x : List Int) : List UInt8 := dgt (x.getD 0 0).toNat ++ dgt (x.getD 1 0).toNat
theorem rgB_two {p q : Int} : rgB [p, q] = true ↔ (0 ≤ p ∧ p ≤ 9) ∧ (0 ≤ q ∧ q ≤ 9) := by
  unfold rgB
  simp only [List.length_cons, List.length_nil, List.getD_cons_zero, List.getD_cons_succ, Bool.and_eq_true, decide_eq_true_eq]
  constructor
  · rintro ⟨_, h⟩; exact h
  · intro h; exact ⟨trivial, h⟩
theorem rgB_len {x : List Int} (h : x.length ≠ 2) : rgB x = false := by unfold rgB; rw [decide_eq_false h]; rfl
theorem all_rg {d : List (List Int)} {k : Nat} (h : k < d.length) : (d.take (k + 1)).all rgB = ((d.take k).all rgB && rgB (rowOf d k)) := by
  rw [take_succ_get _ _ h, List.all_append, rowOf_get h]; simp
theorem fdAll_bad {d : List (List Int)} {k : Nat} (h : k < d.length) (hb : rgB (rowOf d k) = false) : d.all rgB = false := by
  rw [Bool.eq_false_iff]
  intro q
  have := List.all_eq_true.1 q _ (List.getElem_mem h)
  rw [← rowOf_get h, hb] at this
  cases this
theorem fdT_len (x : List Int) : (fdT x).length ≤ 4 := by
  unfold fdT
  have h1 := dgt_len (x.getD 0 0).toNat
  have h2 := dgt_len (x.getD 1 0).toNat
  rw [List.length_append]; omega
theorem dgt_pos (n : Nat) : 0 < (dgt n).length := by unfold dgt; split <;> simp
def glD (d : List (List Int)) (k : Nat) : List UInt8 := gl [32] (d.map fdT) k
theorem glD_succ {d : List (List Int)} {k : Nat} (h : k < d.length) : glD d (k + 1) = glD d k ++ ((if k = 0 then [] else [32]) ++ fdT (rowOf d k)) := by
  unfold glD
  rw [gl_succ (by rw [List.length_map]; exact h), rowOf_get h]; simp
theorem glD_len {d : List (List Int)} : ∀ k, k ≤ d.length → (glD d k).length ≤ k * 5 := by
  intro k hk
  exact gl_len (c := [32]) (ss := d.map fdT) (B := 5) (fun i hi => by rw [List.getElem_map]; have := fdT_len (d[i]'(by rw [List.length_map] at hi; exact hi)); simp; omega) k (by rw [List.length_map]; exact hk)
theorem glD_pos {d : List (List Int)} {k : Nat} (h : k < d.length) : glD d (k + 1) ≠ [] := by
  rw [glD_succ h]
  intro e
  have := congrArg List.length e
  unfold fdT at this
  simp only [List.length_append, List.length_nil] at this
  have := dgt_pos ((rowOf d k).getD 0 0).toNat
  omega
/-- what both return -/
def fdV (d : List (List Int)) : List UInt8 := if d.length = 0 then [110, 111, 110, 101] else if d.all rgB = true then glD d d.length else []
theorem fdV_bad {d : List (List Int)} {k : Nat} (h : k < d.length) (hb : rgB (rowOf d k) = false) : fdV d = [] := by
  unfold fdV
  rw [if_neg (by omega), fdAll_bad h hb]; rfl
theorem fdV_ok {d : List (List Int)} (h : 0 < d.length) (hb : d.all rgB = true) : fdV d = glD d d.length := by
  unfold fdV
  rw [if_neg (by omega), if_pos hb]
theorem S_lst (l : List UInt8) : (S l).toList = l := ByteArray.toList_mk l
theorem two_cs {x : List Int} (h : x.length = 2) : ∃ p q, x = [p, q] := by
  match x, h with
  | [a, b], _ => exact ⟨a, b, rfl⟩
theorem step_appT (wr : World) {ops : Array Oper} {o : Oper} {a : Act} {K : Act → World → Prop} {Q : Exit → Act → World → Prop} {E : Prop} (hgd : o.guard = none) (s x : Operand)
    (ho : o.op = .call { callee := .builtin .append, args := #[s, x], argTypes := #[64, 64] })
    (base : Nat) (v : Value) (xs : List (List UInt8)) (hs : a.eval s = v) (hown : OwR 9 sf wr base v xs) (X : List UInt8) (u : Value) (hu : sf X = u)
    {m : Nat} (hx : a.eval x = .slice (some ⟨m, 0, none⟩) 1 1) (hm : m = wr.heap.size) (hlen : xs.length < 1099511627776) (hbase : base ≤ wr.heap.size)
    (h : ∀ v' w', OwR 9 sf w' base v' (xs ++ [X]) → wr.grownBy w' v.ownBlock → AppAt wr v v' (xs.length + 1) → K (a.put o.dst v') w') :
    if Region.wanted o (yielded ops a.tmps) = true then Oper.wp Try.prog o a (wr.alloc (.cells #[u] 9)) K Q else E := by
  obtain ⟨i0, hi, hz0, hz1, hz2⟩ := info_parts info_str
  have hw : Region.wanted o (yielded ops a.tmps) = true := by simp [Region.wanted, hgd]
  rw [if_pos hw]
  subst hu
  refine wp_app1 wr s x 64 ho base 9 i0 (sf []) 16 Try.underlying64 hi hz0 hz1 hz2 rfl v (xs.map sf) hs (by simpa using hown.1) (sf X) rfl hx hm (by simp; omega) (by omega) hbase ?_
  intro v' w' h1 h2 h3
  exact h v' w' ⟨by simpa using h1, by simp; omega⟩ h2 (by simpa using h3)
set_option maxRecDepth 8000 in
set_option maxHeartbeats 3200000 in
theorem implFormatDiagonals_any (v : Value) (d : List (List Int)) (w : World) (hv : RdSS w v d) (h20 : d.length ≤ 20) :
    Calls Try.prog 158 #[v] w (RetS w (fdV d)) := by
  obtain ⟨A, c0, rfl, _, _, _⟩ := id hv
  have HV0 := Lib.hid hv
  by_cases h0 : d.length = 0
  · have HV := Lib.hid (show fdV d = [110, 111, 110, 101] by unfold fdV; rw [if_pos h0])
    have h0i : (d.length : Int) = 0 := by omega
    clear hv h0
    go_enter Try.func158, Try.ntmps158
    go_wp2_with fail
    go_ret
    exact RetS.mk (by rw [HV.out]; rfl) (Below.refl _ _)
  · have h0i : ((d.length : Int) == 0) = false := beq_eq_false_iff_ne.2 (by omega)
    have h20i : ¬ (20 : Int) < (d.length : Int) := by omega
    have own0 := OwR.lit (e := 9) (f := sf) w [] w.heap.size (Nat.le_refl _) (by simp)
    have own0 : OwR 9 sf (w.alloc (.cells #[] 9)) w.heap.size (.slice (some ⟨w.heap.size, 0, none⟩) 0 0) [] := own0
    have hB0 : Below w.heap.size w (w.alloc (.cells #[] 9)) := (Below.refl _ _).alloc (Nat.le_refl _) _
    have hpos : 0 < d.length := by omega
    clear hv h0
    go_enter Try.func158, Try.ntmps158
    go_wp2_with fail
    generalize w.alloc (.cells #[] 9) = w1 at *
    go_loopw [3, 15] (fun x i wr => ∃ k : Nat, k ≤ d.length ∧ i = .int .i64 (k : Int) ∧ OwR 9 sf wr w.heap.size x ((d.take k).map fdT) ∧ Hid ((d.take k).all rgB = true) ∧ Below w.heap.size w wr) (fun _ i _ => d.length - (intOf i).toNat)
    case atStart => exact ⟨0, by omega, rfl, own0, rfl, hB0⟩
    case round =>
      clear own0 hB0
      obtain ⟨k, hk, rfl, hown, HA, hB⟩ := hrel
      have hsz := hB.size
      by_cases hlt : k < d.length
      · have hlti : (k : Int) < (d.length : Int) := by omega
        by_cases h2 : (rowOf d k).length = 2
        · obtain ⟨p, q, hpq⟩ := two_cs h2
          obtain ⟨bl, oo, b1, o1, c1, rfl, hc1, hall⟩ := HV0.out.two_all hlt hpq
          have HALL := Lib.hid hall
          obtain ⟨q0, q2, q3⟩ := hall wr hB
          have HROW := Lib.hid hpq
          clear hall h2
          by_cases hp : 0 ≤ p ∧ p ≤ 9
          · by_cases hq : 0 ≤ q ∧ q ≤ 9
            · have HS := Lib.hid (show (d.take (k + 1)).map fdT = (d.take k).map fdT ++ [fdT [p, q]] by rw [take_succ_get _ _ hlt, List.map_append, ← rowOf_get hlt, HROW.out]; rfl)
              have HA2 := Lib.hid (show (d.take (k + 1)).all rgB = true by rw [all_rg hlt, HA.out, HROW.out, rgB_two.2 ⟨hp, hq⟩]; rfl)
              obtain ⟨pn, rfl⟩ := Int.eq_ofNat_of_zero_le hp.1
              obtain ⟨qn, rfl⟩ := Int.eq_ofNat_of_zero_le hq.1
              have hpn : pn < 20 := by omega
              have hqn : qn < 20 := by omega
              have HX := Lib.hid (show S (dgt pn) ++ S (dgt qn) = S (fdT [(pn : Int), (qn : Int)]) by rw [S_append]; rfl)
              have HSX := Lib.hid (show sf (fdT [(pn : Int), (qn : Int)]) = .string (S (dgt pn) ++ S (dgt qn)) by unfold sf; rw [HX.out])
              have z1 : (S (dgt pn)).size ≤ 2 := by rw [S_size]; exact dgt_len pn
              have z2 : (S (dgt qn)).size ≤ 2 := by rw [S_size]; exact dgt_len qn
              have n1 : ¬ 9223372036854775807 < (S (dgt pn)).size + (S (dgt qn)).size := by omega
              have hlen : ((d.take k).map fdT).length < 1099511627776 := by rw [List.length_map, List.length_take]; omega
              have HOW := Lib.hid hown
              have HBW := Lib.hid hB
              clear hpq hown
              go_wp2_with (go_at_call 178; refine (within_yes _ _ _ _ (by omega) (by omega)).mono ?_; rintro e w' ⟨rfl, rfl⟩)
              go_region_law (first
                | (go_simp
                   go_at_call_of 208 (Value.int .i64 (pn : Int))
                   have H1 := implFormatInt_any pn wr.drew hpn
                   refine H1.mono ?_
                   clear H1
                   rintro e w4 ⟨rfl, b4⟩
                   have b4' : Below wr.heap.size wr w4 := below_then (below_draws wr 1) b4
                   have B4 := below_then HBW.out b4'
                   obtain ⟨_, r2, r3⟩ := HALL.out w4 B4
                   have hown4 := Lib.hid (OwR.below HOW.out b4')
                   clear b4)
                | (go_simp
                   go_at_call_of 208 (Value.int .i64 (qn : Int))
                   have H1 := implFormatInt_any qn w4 hqn
                   refine H1.mono ?_
                   clear H1
                   rintro e w5 ⟨rfl, b5⟩
                   have B5 := below_then B4 b5
                   have hown5 := OwR.below hown4.out b5
                   have hs5 := B5.size)
                | refine step_appT w5 rfl (.tmp 36) (.tmp 46) rfl w.heap.size _ _ (by simp [Act.eval]) hown5 (fdT [(pn : Int), (qn : Int)]) _ HSX.out (m := w5.heap.size) (by simp [Act.eval]) rfl hlen hs5 ?_
                  intro v6 w6 o6 g6 a6
                  have hB6 := Lib.hid (below_of_own B5 g6 hs5 (fun g hg => (OwR.lt hown5 g hg).1))
                  have HO6 := Lib.hid o6
                  clear o6 g6 a6)
              all_goals (
                go_wp2_with fail
                go_roundw
                case rel => exact ⟨k + 1, by omega, by go_num, by rw [HS.out]; exact HO6.out, HA2.out, hB6.out⟩
                case measure => simp [intOf]; omega)
            · have hb : rgB (rowOf d k) = false := by rw [HROW.out, ← Bool.not_eq_true, rgB_two]; exact fun e => hq e.2
              have HV := Lib.hid (fdV_bad hlt hb)
              clear hpq hb
              go_wp2_with (first | (go_at_call 178; refine (within_yes _ _ _ _ (by omega) (by omega)).mono ?_; rintro e w' ⟨rfl, rfl⟩) | (go_at_call 178; refine (within_no _ _ _ _ (by omega)).mono ?_; rintro e w' ⟨rfl, rfl⟩))
              go_ret
              exact RetS.mk (by rw [HV.out]; rfl) hB
          · have hb : rgB (rowOf d k) = false := by rw [HROW.out, ← Bool.not_eq_true, rgB_two]; exact fun e => hp e.1
            have HV := Lib.hid (fdV_bad hlt hb)
            clear hpq hb
            go_wp2_with (first | (go_at_call 178; refine (within_yes _ _ _ _ (by omega) (by omega)).mono ?_; rintro e w' ⟨rfl, rfl⟩) | (go_at_call 178; refine (within_no _ _ _ _ (by omega)).mono ?_; rintro e w' ⟨rfl, rfl⟩))
            go_ret
            exact RetS.mk (by rw [HV.out]; rfl) hB
        · obtain ⟨bl, oo, u, rfl, hu, hru⟩ := (HV0.out.below hB).row hlt
          obtain ⟨A1, c1, rfl, _⟩ := id hru
          have f2 : (((rowOf d k).length : Int) != 2) = true := bne_iff_ne.2 (by omega)
          have HV := Lib.hid (fdV_bad hlt (rgB_len h2))
          clear h2 hru
          go_wp2_with fail
          go_ret
          exact RetS.mk (by rw [HV.out]; rfl) hB
      · have hlti : ¬ (k : Int) < (d.length : Int) := by omega
        obtain rfl : k = d.length := by omega
        have HVV := Lib.hid (show fdV d = glD d d.length by have := HA.out; rw [List.take_length] at this; exact fdV_ok hpos this)
        rw [List.take_length] at hown
        have hrd := Lib.hid hown.rd
        have HG := Lib.hid (fun (vq : Value) (wq : World) (hq : RdR sf wq vq (d.map fdT)) => glued_any vq _ [32] wq hq (fun i hi => by rw [List.getElem_map]; have := fdT_len (d[i]'(by rw [List.length_map] at hi; exact hi)); simp; omega) (by rw [List.length_map]; omega))
        go_wp2_with fail
        refine (HG.out _ _ hrd.out).mono ?_; rintro e w2 ⟨rfl, rfl⟩
        go_wp2_with fail
        go_ret
        exact RetS.mk (by rw [HVV.out]; rfl) hB
set_option maxRecDepth 8000 in
set_option maxHeartbeats 6400000 in
theorem specFormatDiagonals_any (v : Value) (d : List (List Int)) (w : World) (hv : RdSS w v d) (h20 : d.length ≤ 20) :
    Calls Try.prog 159 #[v] w (RetS w (fdV d)) := by
  obtain ⟨A, c0, rfl, _, _, _⟩ := id hv
  have HV0 := Lib.hid hv
  have h20i : ¬ (20 : Int) < (d.length : Int) := by omega
  clear hv
  go_enter Try.func159, Try.ntmps159
  go_wp2_with fail
  go_loopw [3, 4] (fun x i wr => ∃ k : Nat, k ≤ d.length ∧ i = .int .i64 (k : Int) ∧ x = .string (S (glD d k)) ∧ Hid ((d.take k).all rgB = true) ∧ Below w.heap.size w wr) (fun _ i _ => d.length - (intOf i).toNat)
  case atStart => exact ⟨0, by omega, rfl, rfl, rfl, Below.refl _ _⟩
  case round =>
    obtain ⟨k, hk, rfl, rfl, HA, hB⟩ := hrel
    have hsz := hB.size
    by_cases hlt : k < d.length
    · have hlti : (k : Int) < (d.length : Int) := by omega
      by_cases h2 : (rowOf d k).length = 2
      · obtain ⟨p, q, hpq⟩ := two_cs h2
        obtain ⟨bl, oo, b1, o1, c1, rfl, hc1, hall⟩ := HV0.out.two_all hlt hpq
        have HALL := Lib.hid hall
        obtain ⟨q0, q2, q3⟩ := hall wr hB
        have HROW := Lib.hid hpq
        clear hall h2
        by_cases hp : 0 ≤ p ∧ p ≤ 9
        · by_cases hq : 0 ≤ q ∧ q ≤ 9
          · have HS := Lib.hid (glD_succ hlt)
            rw [HROW.out] at HS
            have hgl := glD_len (d := d) k hk
            have HA2 := Lib.hid (show (d.take (k + 1)).all rgB = true by rw [all_rg hlt, HA.out, HROW.out, rgB_two.2 ⟨hp, hq⟩]; rfl)
            obtain ⟨pn, rfl⟩ := Int.eq_ofNat_of_zero_le hp.1
            obtain ⟨qn, rfl⟩ := Int.eq_ofNat_of_zero_le hq.1
            have hpn : pn < 20 := by omega
            have hqn : qn < 20 := by omega
            have HFD := Lib.hid (show fdT [(pn : Int), (qn : Int)] = dgt pn ++ dgt qn from rfl)
            have z1 : (S (dgt pn)).size ≤ 2 := by rw [S_size]; exact dgt_len pn
            have z2 : (S (dgt qn)).size ≤ 2 := by rw [S_size]; exact dgt_len qn
            have HBW := Lib.hid hB
            clear hpq
            by_cases hk0 : k = 0
            · have hk0i : ¬ (0 : Int) < (k : Int) := by omega
              have HX := Lib.hid (show S (glD d k) ++ S (dgt pn) ++ S (dgt qn) = S (glD d (k + 1)) by rw [HS.out, if_pos hk0, HFD.out, List.nil_append, S_append, S_append, List.append_assoc])
              have z0 : (S (glD d k)).size ≤ 200 := by rw [S_size]; omega
              generalize S (glD d k) = T at *
              clear hk0
              have n1 : ¬ 9223372036854775807 < T.size + (S (dgt pn)).size := by omega
              have n2 : ¬ 9223372036854775807 < T.size + (S (dgt pn)).size + (S (dgt qn)).size := by omega
              go_wp2_with (go_at_call 185; refine (l1In_yes _ _ _ _ (by omega) (by omega)).mono ?_; rintro e w' ⟨rfl, rfl⟩)
              go_region_law (first
                | (go_simp
                   go_at_call_of 210 (Value.int .i64 (pn : Int))
                   have H1 := specFormatInt_any pn wr.drew hpn
                   refine H1.mono ?_
                   clear H1
                   rintro e w4 ⟨rfl, b4⟩
                   have b4' : Below wr.heap.size wr w4 := below_then (below_draws wr 1) b4
                   have B4 := below_then HBW.out b4'
                   obtain ⟨r1, r2, r3⟩ := HALL.out w4 B4
                   clear b4)
                | (go_simp
                   go_at_call_of 210 (Value.int .i64 (qn : Int))
                   have H1 := specFormatInt_any qn w4 hqn
                   refine H1.mono ?_
                   clear H1
                   rintro e w5 ⟨rfl, b5⟩
                   have B5 := below_then B4 b5
                   have HB5 := Lib.hid B5))
              all_goals (
                go_wp2_with fail
                go_roundw
                case rel => exact ⟨k + 1, by omega, by go_num, by rw [HX.out], HA2.out, HB5.out⟩
                case measure => simp [intOf]; omega)
            · have hk0i : (0 : Int) < (k : Int) := by omega
              have HX := Lib.hid (show S (glD d k ++ [32]) ++ S (dgt pn) ++ S (dgt qn) = S (glD d (k + 1)) by rw [HS.out, if_neg hk0, HFD.out, S_append, S_append]; simp)
              have z0 : (S (glD d k)).size ≤ 200 := by rw [S_size]; omega
              have z3 : (S (glD d k ++ [32])).size ≤ 201 := by rw [S_size, List.length_append, List.length_singleton]; omega
              have HC := Lib.hid (S_snoc (glD d k) 32)
              clear hk0
              go_wp2_with (go_at_call 185; refine (l1In_yes _ _ _ _ (by omega) (by omega)).mono ?_; rintro e w' ⟨rfl, rfl⟩)
              rw [HC.out]
              generalize S (glD d k ++ [32]) = T at *
              have n1 : ¬ 9223372036854775807 < T.size + (S (dgt pn)).size := by omega
              have n2 : ¬ 9223372036854775807 < T.size + (S (dgt pn)).size + (S (dgt qn)).size := by omega
              go_region_law (first
                | (go_simp
                   go_at_call_of 210 (Value.int .i64 (pn : Int))
                   have H1 := specFormatInt_any pn wr.drew hpn
                   refine H1.mono ?_
                   clear H1
                   rintro e w4 ⟨rfl, b4⟩
                   have b4' : Below wr.heap.size wr w4 := below_then (below_draws wr 1) b4
                   have B4 := below_then HBW.out b4'
                   obtain ⟨r1, r2, r3⟩ := HALL.out w4 B4
                   clear b4)
                | (go_simp
                   go_at_call_of 210 (Value.int .i64 (qn : Int))
                   have H1 := specFormatInt_any qn w4 hqn
                   refine H1.mono ?_
                   clear H1
                   rintro e w5 ⟨rfl, b5⟩
                   have B5 := below_then B4 b5
                   have HB5 := Lib.hid B5))
              all_goals (
                go_wp2_with fail
                go_roundw
                case rel => exact ⟨k + 1, by omega, by go_num, by rw [HX.out], HA2.out, HB5.out⟩
                case measure => simp [intOf]; omega)
          · have hb : rgB (rowOf d k) = false := by rw [HROW.out, ← Bool.not_eq_true, rgB_two]; exact fun e => hq e.2
            have HV := Lib.hid (fdV_bad hlt hb)
            clear hpq hb
            go_wp2_with (first | (go_at_call 185; refine (l1In_yes _ _ _ _ (by omega) (by omega)).mono ?_; rintro e w' ⟨rfl, rfl⟩) | (go_at_call 185; refine (l1In_no _ _ _ _ (by omega)).mono ?_; rintro e w' ⟨rfl, rfl⟩))
            go_ret
            exact RetS.mk (by rw [HV.out]; rfl) hB
        · have hb : rgB (rowOf d k) = false := by rw [HROW.out, ← Bool.not_eq_true, rgB_two]; exact fun e => hp e.1
          have HV := Lib.hid (fdV_bad hlt hb)
          clear hpq hb
          go_wp2_with (first | (go_at_call 185; refine (l1In_yes _ _ _ _ (by omega) (by omega)).mono ?_; rintro e w' ⟨rfl, rfl⟩) | (go_at_call 185; refine (l1In_no _ _ _ _ (by omega)).mono ?_; rintro e w' ⟨rfl, rfl⟩))
          go_ret
          exact RetS.mk (by rw [HV.out]; rfl) hB
      · obtain ⟨bl, oo, u, rfl, hu, hru⟩ := (HV0.out.below hB).row hlt
        obtain ⟨A1, c1, rfl, _⟩ := id hru
        have f2 : (((rowOf d k).length : Int) != 2) = true := bne_iff_ne.2 (by omega)
        have HV := Lib.hid (fdV_bad hlt (rgB_len h2))
        clear h2 hru
        go_wp2_with fail
        go_ret
        exact RetS.mk (by rw [HV.out]; rfl) hB
    · have hlti : ¬ (k : Int) < (d.length : Int) := by omega
      obtain rfl : k = d.length := by omega
      have hA := HA.out
      rw [List.take_length] at hA
      rcases Nat.eq_zero_or_pos d.length with h0 | h0
      · have fS : (S (glD d d.length)).toList.isEmpty = true := by rw [S_lst, h0]; rfl
        have HVV := Lib.hid (show fdV d = [110, 111, 110, 101] by unfold fdV; rw [if_pos h0])
        clear h0 hA
        go_wp2_with fail
        go_ret
        exact RetS.mk (by rw [HVV.out]; rfl) hB
      · have fS : (S (glD d d.length)).toList.isEmpty = false := by
          rw [S_lst]
          obtain ⟨n, hn⟩ : ∃ n, d.length = n + 1 := ⟨d.length - 1, by omega⟩
          have := glD_pos (d := d) (k := n) (by omega)
          rw [← hn] at this
          cases hg : glD d d.length with
          | nil => exact absurd hg this
          | cons a l => rfl
        have HVV := Lib.hid (fdV_ok h0 hA)
        clear h0 hA
        go_wp2_with fail
        go_ret
        exact RetS.mk (by rw [HVV.out]) hB
end Go.Proofs.Ytnkkgfeegaiakaa
