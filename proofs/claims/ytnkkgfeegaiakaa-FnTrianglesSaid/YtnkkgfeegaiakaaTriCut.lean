/- Contracts of IsBinary, NodesOf, l7Cut and of TriangulationOf, the program's and the reference's: the diagonals of the tree that a text is, in order. Condition: a text's size. -/
import Derived.Test.YtnkkgfeegaiakaaPlain35
import Derived.Test.YtnkkgfeegaiakaaGround
namespace Go.Proofs.Ytnkkgfeegaiakaa
open Go.RowKit
theorem toL (s : ByteArray) : s.toList = L s := by
  cases s with
  | mk d => rw [ByteArray.toList_mk]; rfl
theorem S_eq {s : ByteArray} {l : List UInt8} (h : L s = l) : s = S l := by rw [← h, S_L]
def ndR (l : List UInt8) : Int := match ptR l with
  | none => -1
  | some T => (T.size : Int)
theorem ndR_some {l : List UInt8} {T : Tr} (h : ptR l = some T) : ndR l = (T.size : Int) := by unfold ndR; rw [h]
theorem ndR_none {l : List UInt8} (h : ptR l = none) : ndR l = -1 := by unfold ndR; rw [h]
theorem ptR_end {l : List UInt8} (h : l.length ≤ 25) : (ptR l).isSome = decide (endOf (rdAt l.length l 0) = (l.length : Int)) := by
  unfold ptR
  rw [if_pos h]
  rcases e : rdAt l.length l 0 with _ | ⟨T, j⟩
  · show false = decide ((-1 : Int) = (l.length : Int))
    rw [decide_eq_false (by omega)]
  · show (if j = l.length then some T else none).isSome = decide ((j : Int) = (l.length : Int))
    by_cases hj : j = l.length
    · rw [if_pos hj, decide_eq_true (by omega)]; rfl
    · rw [if_neg hj, decide_eq_false (by omega)]; rfl
theorem ptR_long {l : List UInt8} (h : ¬ l.length ≤ 25) : ptR l = none := by unfold ptR; rw [if_neg h]
theorem ptR_pos {l : List UInt8} {T : Tr} (h : ptR l = some T) : 0 < l.length := by
  obtain ⟨e, _⟩ := ptR_text.1 h
  rw [e, txT_len]; omega
set_option maxRecDepth 8000 in
set_option maxHeartbeats 1000000 in
theorem specIsBinary_any (s : ByteArray) (w : World) (hs : s.size ≤ 1099511627776) :
    Calls Try.prog 160 #[.string s] w fun e w' => e = .returned (.bool (ptR (L s)).isSome) ∧ w = w' := by
  by_cases h25 : s.size ≤ 25
  · have h25i : (s.size : Int) ≤ 25 := by omega
    have HC := Lib.hid (l6End_any s (by omega) s.size 0 w (by omega) (by omega))
    have HE := Lib.hid (ptR_end (l := L s) (by rw [L_len]; exact h25))
    rw [L_len] at HE
    by_cases he : endOf (rdAt s.size (L s) 0) = (s.size : Int)
    · have HV := Lib.hid (show (ptR (L s)).isSome = true by rw [HE.out, decide_eq_true he])
      rw [he] at HC
      have h0 : 0 < s.size := by
        obtain ⟨T, hT⟩ := Option.isSome_iff_exists.1 HV.out
        have := ptR_pos hT
        rw [L_len] at this; exact this
      have hne : s ≠ ByteArray.empty := fun e => by rw [e] at h0; simp at h0
      have f0 : (!s.toList.isEmpty) = true := by
        rw [toL s]
        cases hl : L s with
        | nil => exact absurd (show s.size = 0 by rw [← L_len s, hl]; rfl) (by omega)
        | cons c l => rfl
      clear HE he
      go_enter Try.func160, Try.ntmps160
      go_wp2_with (go_at_call 228; refine HC.out.mono ?_; rintro e w' ⟨rfl, rfl⟩)
      go_ret
      exact ⟨ret_bool HV.out.symm, rfl⟩
    · have HV := Lib.hid (show (ptR (L s)).isSome = false by rw [HE.out, decide_eq_false he])
      have f0 : (endOf (rdAt s.size (L s) 0) == (s.size : Int)) = false := beq_eq_false_iff_ne.2 he
      clear HE he
      generalize endOf (rdAt s.size (L s) 0) = E at *
      go_enter Try.func160, Try.ntmps160
      go_wp2_with (go_at_call 228; refine HC.out.mono ?_; rintro e w' ⟨rfl, rfl⟩)
      go_ret
      exact ⟨ret_bool HV.out.symm, rfl⟩
  · have h25i : ¬ (s.size : Int) ≤ 25 := by omega
    have HV := Lib.hid (show (ptR (L s)).isSome = false by rw [ptR_long (by rw [L_len]; exact h25)]; rfl)
    go_enter Try.func160, Try.ntmps160
    go_wp2_with fail
    go_ret
    exact ⟨ret_bool HV.out.symm, rfl⟩
set_option maxHeartbeats 1000000 in
theorem specNodesOf_any (s : ByteArray) (w : World) (hs : s.size ≤ 1099511627776) :
    Calls Try.prog 147 #[.string s] w fun e w' => e = .returned (.int .i64 (ndR (L s))) ∧ w = w' := by
  have HB := specIsBinary_any s w hs
  rcases hT : ptR (L s) with _ | T
  · rw [hT] at HB
    have HV := Lib.hid (ndR_none hT)
    clear hT
    go_enter Try.func147, Try.ntmps147
    go_wp2_with fail
    refine HB.mono ?_; rintro e w1 ⟨rfl, rfl⟩
    go_wp2_with fail
    go_ret
    exact ⟨ret_int HV.out.symm, rfl⟩
  · rw [hT] at HB
    have HV := Lib.hid (ndR_some hT)
    have hl : s.size = 3 * T.size + 1 := by rw [← L_len, (ptR_text.1 hT).1, txT_len]
    have h8 := (ptR_text.1 hT).2
    have e1 : IntKind.i64.wrap ((s.size : Int) - 1) = (s.size : Int) - 1 := IntWalk.i64_in _ (by omega)
    have e2 : ((s.size : Int) - 1).tdiv 3 = (T.size : Int) := by rw [Int.tdiv_eq_ediv_of_nonneg (by omega)]; omega
    clear hT
    go_enter Try.func147, Try.ntmps147
    go_wp2_with fail
    refine HB.mono ?_; rintro e w1 ⟨rfl, rfl⟩
    go_wp2_with fail
    go_ret
    exact ⟨ret_int HV.out.symm, rfl⟩
/-- what l7Cut leaves -/
def RetCut (w : World) (b0 : Nat) (R : List (List Int)) (e : Ending) (w' : World) : Prop := ∃ g cap Ps, e = .returned (.slice (some ⟨g, 0, none⟩) Ps.length cap) ∧ Spine w' b0 (.slice (some ⟨g, 0, none⟩) Ps.length cap) Ps ∧ RowsOk w' b0 Ps ∧ Ps.map (·.2) = R ∧ (∀ q ∈ Ps, q.2.length = 2) ∧ Below w.heap.size w w'
theorem putsR (R : List (List Int)) (a b c : List (List Int)) : (a ++ (b ++ c)).foldl (putG [] ltL) R = c.foldl (putG [] ltL) (b.foldl (putG [] ltL) (a.foldl (putG [] ltL) R)) := by rw [List.foldl_append, List.foldl_append]
theorem foldl_put_len (f : List (List Int)) : ∀ R : List (List Int), (f.foldl (putG [] ltL) R).length = R.length + f.length := by
  induction f with
  | nil => intro R; rfl
  | cons x f ih => intro R; rw [List.foldl_cons, ih, putG_len, List.length_cons]; omega
theorem cutN_len (n : Int) : ∀ (T : Tr) (l r : Int), (cutN n T l r).length ≤ T.size
  | .lf, l, r => Nat.le_refl _
  | .nd a b, l, r => by
    have hs : (Tr.nd a b).size = a.size + b.size + 1 := rfl
    have ha := cutN_len n a l (l + (a.size : Int) + 1)
    have hb := cutN_len n b (l + (a.size : Int) + 1) r
    show ((if l = 0 ∧ r = n - 1 then [] else [[l, r]]) ++ (cutN n a l (l + (a.size : Int) + 1) ++ cutN n b (l + (a.size : Int) + 1) r)).length ≤ _
    rw [List.length_append, List.length_append]
    split <;> simp <;> omega
theorem L_extract (s : ByteArray) (a b : Nat) : L (s.extract a b) = ((L s).drop a).take (b - a) := by
  unfold L
  rw [ByteArray.data_extract, Array.toList_extract, List.extract_eq_take_drop]
theorem txt_parts (a b : Tr) : (S (txT (.nd a b))).size = (txT a).length + (txT b).length + 2 := by
  rw [S_size]; simp [txT]; omega
theorem txt_left (a b : Tr) {m : Nat} (hm : m = 1 + (txT a).length) : (S (txT (.nd a b))).extract 1 m = S (txT a) := by
  subst hm
  apply S_eq
  rw [L_extract, L_S]
  show ((40 :: (txT a ++ (txT b ++ [41]))).drop 1).take (1 + (txT a).length - 1) = _
  rw [List.drop_succ_cons, List.drop_zero, Nat.add_sub_cancel_left, List.take_left]
theorem txt_right (a b : Tr) {n m : Nat} (hn : n = 1 + (txT a).length) (hm : m = 1 + (txT a).length + (txT b).length) : (S (txT (.nd a b))).extract n m = S (txT b) := by
  subst hn; subst hm
  apply S_eq
  rw [L_extract, L_S]
  show ((40 :: (txT a ++ (txT b ++ [41]))).drop (1 + (txT a).length)).take (1 + (txT a).length + (txT b).length - (1 + (txT a).length)) = _
  rw [Nat.add_comm 1 (txT a).length, List.drop_succ_cons, List.drop_left, Nat.add_sub_cancel_left, List.take_left]
set_option maxRecDepth 8000 in
set_option maxHeartbeats 16000000 in
theorem l7Cut_any (n : Int) (hn : 2 ≤ n ∧ n ≤ 10) : ∀ (T : Tr) (l r : Int) (g cap : Nat) (Ps : List (Value × List Int)) (w : World) (b0 : Nat), T.size ≤ 8 → r = l + (T.size : Int) + 1 → 0 ≤ l → r ≤ n - 1 →
    Spine w b0 (.slice (some ⟨g, 0, none⟩) Ps.length cap) Ps → RowsOk w b0 Ps → (∀ q ∈ Ps, q.2.length = 2) → Ps.length + T.size ≤ 50 → b0 ≤ w.heap.size →
    Calls Try.prog 161 #[.string (S (txT T)), .int .i64 l, .int .i64 r, .slice (some ⟨g, 0, none⟩) Ps.length cap, .int .i64 n] w (RetCut w b0 ((cutN n T l r).foldl (putG [] ltL) (Ps.map (fun (q : Value × List Int) => q.2)))) := by
  intro T
  induction T with
  | lf =>
    intro l r g cap Ps w b0 _ _ _ _ hs hr h2 _ _
    have HS := Lib.hid hs
    have HR := Lib.hid hr
    have H2 := Lib.hid h2
    have f0 : ((S (txT .lf)).toList == [46]) = true := by rw [toL, L_S]; rfl
    clear hs hr h2
    generalize S (txT .lf) = t at *
    go_enter Try.func161, Try.ntmps161
    go_wp2_with fail
    go_ret
    exact ⟨g, cap, Ps, rfl, HS.out, HR.out, rfl, H2.out, Below.refl _ _⟩
  | nd a b iha0 ihb0 =>
    intro l r g cap Ps w b0 h8 hrl hl0 hrn hs hr h2 hln hbs
    have hsz : (Tr.nd a b).size = a.size + b.size + 1 := rfl
    have iha := Lib.hid iha0
    have ihb := Lib.hid ihb0
    clear iha0 ihb0
    have ha8 : a.size ≤ 8 := by omega
    have hb8 : b.size ≤ 8 := by omega
    have hrl2 : r = l + ((a.size : Int) + (b.size : Int) + 1) + 1 := by omega
    have hOL : Ps.length + a.size + b.size + 1 ≤ 50 := by omega
    have HOL := Lib.hid hOL
    have htz0 := txt_parts a b
    have hla := txT_len a
    have hlb := txT_len b
    obtain ⟨X, hX⟩ : ∃ X : Nat, X = 1 + (txT a).length := ⟨_, rfl⟩
    obtain ⟨Y, hY⟩ : ∃ Y : Nat, Y = X + (txT b).length := ⟨_, rfl⟩
    have hxl := txt_left a b (m := X) hX
    have hxr := txt_right a b (n := X) (m := Y) hX (by omega)
    have hend : endOf (rdAt (S (txT (.nd a b))).size (L (S (txT (.nd a b)))) 1) = (X : Int) := by
      rw [L_S, S_size, rdAt_text (T := a) (i := 1) (pre := [40]) (post := txT b ++ [41]) (by simp [txT]) rfl (by simp [txT]; omega), ← hX]; rfl
    have hne : ((S (txT (.nd a b))).toList == [46]) = false := by
      rw [beq_eq_false_iff_ne, toL, L_S]; intro e
      have := congrArg List.length e
      rw [txT_len] at this
      simp only [List.length_cons, List.length_nil] at this
      omega
    have HCN := Lib.hid (show cutN n (.nd a b) l r = (if l = 0 ∧ r = n - 1 then [] else [[l, r]]) ++ (cutN n a l (l + (a.size : Int) + 1) ++ cutN n b (l + (a.size : Int) + 1) r) from rfl)
    have htY : (S (txT (.nd a b))).size = Y + 1 := by omega
    have hX80 : 1 ≤ X ∧ X ≤ Y ∧ Y ≤ 80 := by omega
    generalize S (txT (.nd a b)) = t at *
    have HX := Lib.hid (And.intro hend (And.intro hxl hxr))
    have htz := htY
    have hYi : (t.size : Int) - 1 = (Y : Int) := by omega
    have w1 : IntKind.i64.wrap ((t.size : Int) - 1) = (Y : Int) := by rw [hYi]; exact IntWalk.i64_in _ (by omega)
    have w2 : IntKind.i64.wrap (r - l) = r - l := IntWalk.i64_in _ (by omega)
    have w3 : IntKind.i64.wrap (n - 1) = n - 1 := IntWalk.i64_in _ (by omega)
    have w4 : IntKind.i64.wrap (l + 1) = l + 1 := IntWalk.i64_in _ (by omega)
    have w5 : IntKind.i64.wrap (l + 1 + (a.size : Int)) = l + (a.size : Int) + 1 := by rw [show l + 1 + (a.size : Int) = l + (a.size : Int) + 1 by omega]; exact IntWalk.i64_in _ (by omega)
    have hgt : 1 < r - l := by omega
    have hXY : (X : Int) ≤ (Y : Int) := by omega
    have hXt : (X : Int) ≤ (t.size : Int) := by omega
    have hX1 : (1 : Int) ≤ (X : Int) := by omega
    have hYt : (Y : Int) ≤ (t.size : Int) := by omega
    have HRL := Lib.hid hrl2
    have HTZ := Lib.hid htY
    have HLA := Lib.hid hla
    have HLB := Lib.hid hlb
    clear hend htz0 hX hY hsz hrl hrl2 htz htY hla hlb hxl hxr
    by_cases hc : l = 0 ∧ r = n - 1
    · have HFO := Lib.hid (show (cutN n (.nd a b) l r).foldl (putG [] ltL) (Ps.map (fun (q : Value × List Int) => q.2)) = ([] ++ (cutN n a l (l + (a.size : Int) + 1) ++ cutN n b (l + (a.size : Int) + 1) r)).foldl (putG [] ltL) (Ps.map (fun (q : Value × List Int) => q.2)) by rw [HCN.out, if_pos hc])
      have f1 : (l == 0) = true := beq_iff_eq.2 hc.1
      have f2 : (r == n - 1) = true := beq_iff_eq.2 hc.2
      have HS := Lib.hid hs
      have HR := Lib.hid hr
      have H2 := Lib.hid h2
      have HE := Lib.hid (show Ps.map (fun (q : Value × List Int) => q.2) = ([] : List (List Int)).foldl (putG [] ltL) (Ps.map (fun (q : Value × List Int) => q.2)) from rfl)
      have HLN := Lib.hid (show Ps.length + a.size + b.size ≤ 50 by omega)
      have HBS := Lib.hid hbs
      have HB := Lib.hid (Below.refl w.heap.size w)
      clear hs hr h2 hc HCN hOL hln hbs
      go_enter Try.func161, Try.ntmps161
      go_wp2_with fail
      have HEND := Lib.hid (l6End_any t (by have := HTZ.out; omega) t.size 1 w (by omega) (by have := HTZ.out; omega))
      rw [HX.out.1] at HEND
      have HND := Lib.hid (specNodesOf_any (S (txT a)) w (by rw [S_size]; have := HLA.out; omega))
      rw [L_S, ndR_some (ptR_txT ha8), ← HX.out.2.1] at HND
      have HCA := Lib.hid (iha.out l (l + (a.size : Int) + 1) g cap Ps w b0 ha8 rfl hl0 (by have := HRL.out; omega) HS.out HR.out H2.out (by have := HLN.out; omega) HBS.out)
      rw [← HX.out.2.1] at HCA
      go_wp2_with fail
      refine HEND.out.mono ?_; rintro e wq ⟨rfl, rfl⟩
      go_wp2_with fail
      refine HND.out.mono ?_; rintro e wq ⟨rfl, rfl⟩
      go_wp2_with fail
      refine HCA.out.mono ?_; rintro e w8 ⟨g8, cap8, P8, rfl, s8, r8, m8, t8, b8⟩
      have HCB := Lib.hid (ihb.out (l + (a.size : Int) + 1) r g8 cap8 P8 w8 b0 hb8 (by have := HRL.out; omega) (by omega) hrn s8 r8 t8 (by have := congrArg List.length m8; rw [List.length_map, foldl_put_len, List.length_map] at this; have := cutN_len n a l (l + (a.size : Int) + 1); have := HLN.out; omega) (Nat.le_trans HBS.out b8.size))
      rw [← HX.out.2.2] at HCB
      have HM8 := Lib.hid m8
      have HB8 := Lib.hid (below_then HB.out b8)
      clear s8 r8 m8 t8 b8 HCA
      go_wp2_with fail
      refine HCB.out.mono ?_; rintro e w9 ⟨g9, cap9, P9, rfl, s9, r9, m9, t9, b9⟩
      have HM9 := Lib.hid m9
      have HS9 := Lib.hid s9
      have HR9 := Lib.hid r9
      have H29 := Lib.hid t9
      have HB9 := Lib.hid (below_then HB8.out b9)
      clear s9 r9 m9 t9 b9 HCB
      go_wp2_with fail
      go_ret
      exact ⟨g9, cap9, P9, rfl, HS9.out, HR9.out, by rw [HFO.out, putsR, ← HE.out, ← HM8.out]; exact HM9.out, H29.out, HB9.out⟩
    · have HFO := Lib.hid (show (cutN n (.nd a b) l r).foldl (putG [] ltL) (Ps.map (fun (q : Value × List Int) => q.2)) = ([[l, r]] ++ (cutN n a l (l + (a.size : Int) + 1) ++ cutN n b (l + (a.size : Int) + 1) r)).foldl (putG [] ltL) (Ps.map (fun (q : Value × List Int) => q.2)) by rw [HCN.out, if_neg hc])
      have hown : OwI (w.alloc (.cells #[.int .i64 l, .int .i64 r] 3)) b0 (.slice (some ⟨w.heap.size, 0, none⟩) 2 2) [l, r] := OwR.lit (e := 3) (f := Value.int .i64) w [l, r] b0 hbs (by simp)
      have hbX : Below w.heap.size w (w.alloc (.cells #[.int .i64 l, .int .i64 r] 3)) := (Below.refl _ _).alloc (Nat.le_refl _) _
      have hrowX := hr.below hbX
      have HCALL := Lib.hid (l7Put_any g cap Ps (.slice (some ⟨w.heap.size, 0, none⟩) 2 2) [l, r] _ b0 (hs.below hbX) hrowX hown rfl h2 (by omega))
      have HRN := Lib.hid (put_rows (g := 0) hrowX hown (fun q hq i h1 h2 => by
        have := ((hr.1 q hq).lt i h2).2
        simp [Value.ownBlock] at h1
        omega) rfl)
      have HBX := Lib.hid hbX
      have HL := Lib.hid (putG_len dP ltP Ps ((.slice (some ⟨w.heap.size, 0, none⟩) 2 2 : Value), [l, r]))
      have HSN := Lib.hid (show (putG dP ltP Ps ((.slice (some ⟨w.heap.size, 0, none⟩) 2 2 : Value), [l, r])).map (fun (q : Value × List Int) => q.2) = [[l, r]].foldl (putG [] ltL) (Ps.map (fun (q : Value × List Int) => q.2)) by rw [putG_snd]; rfl)
      have H2N := Lib.hid (show ∀ q ∈ putG dP ltP Ps ((.slice (some ⟨w.heap.size, 0, none⟩) 2 2 : Value), [l, r]), q.2.length = 2 from fun q hq => by
        have := (putG_perm dP ltP Ps ((.slice (some ⟨w.heap.size, 0, none⟩) 2 2 : Value), [l, r])).subset hq
        rcases List.mem_cons.1 this with h | h
        · rw [h]; rfl
        · exact h2 q h)
      have HBS0 := Lib.hid hbs
      clear hown hbX hrowX hs hr h2 HCN hOL hln hbs
      have main : ∀ z, (l == 0) = z → Calls Try.prog 161 #[.string t, .int .i64 l, .int .i64 r, .slice (some ⟨g, 0, none⟩) Ps.length cap, .int .i64 n] w (RetCut w b0 ((cutN n (.nd a b) l r).foldl (putG [] ltL) (Ps.map (fun (q : Value × List Int) => q.2)))) := by
        intro z f1
        rcases z with _ | _
        · clear hc
          go_enter Try.func161, Try.ntmps161
          go_wp2_with fail
          refine HCALL.out.mono ?_; rintro e wp ⟨g2, cap2, rfl, s2, b2⟩
          have HS := Lib.hid (s2.mono (Nat.le_trans HBS0.out (by simp)))
          have HR := Lib.hid (HRN.out.below b2)
          have HB := Lib.hid (below_then HBX.out b2)
          have HBS := Lib.hid (Nat.le_trans HBS0.out HB.out.size)
          clear s2 b2 HCALL HRN HBX
          have HLN := Lib.hid (show (putG dP ltP Ps ((.slice (some ⟨w.heap.size, 0, none⟩) 2 2 : Value), [l, r])).length + a.size + b.size ≤ 50 by have := HL.out; have := HOL.out; omega)
          have HE := HSN
          have H2 := H2N
          clear HSN H2N
          generalize putG dP ltP Ps _ = R at *
          go_wp2_with fail
          have HEND := Lib.hid (l6End_any t (by have := HTZ.out; omega) t.size 1 wp (by omega) (by have := HTZ.out; omega))
          rw [HX.out.1] at HEND
          have HND := Lib.hid (specNodesOf_any (S (txT a)) wp (by rw [S_size]; have := HLA.out; omega))
          rw [L_S, ndR_some (ptR_txT ha8), ← HX.out.2.1] at HND
          have HCA := Lib.hid (iha.out l (l + (a.size : Int) + 1) g2 cap2 R wp b0 ha8 rfl hl0 (by have := HRL.out; omega) HS.out HR.out H2.out (by have := HLN.out; omega) HBS.out)
          rw [← HX.out.2.1] at HCA
          go_wp2_with fail
          refine HEND.out.mono ?_; rintro e wq ⟨rfl, rfl⟩
          go_wp2_with fail
          refine HND.out.mono ?_; rintro e wq ⟨rfl, rfl⟩
          go_wp2_with fail
          refine HCA.out.mono ?_; rintro e w8 ⟨g8, cap8, P8, rfl, s8, r8, m8, t8, b8⟩
          have HCB := Lib.hid (ihb.out (l + (a.size : Int) + 1) r g8 cap8 P8 w8 b0 hb8 (by have := HRL.out; omega) (by omega) hrn s8 r8 t8 (by have := congrArg List.length m8; rw [List.length_map, foldl_put_len, List.length_map] at this; have := cutN_len n a l (l + (a.size : Int) + 1); have := HLN.out; omega) (Nat.le_trans HBS.out b8.size))
          rw [← HX.out.2.2] at HCB
          have HM8 := Lib.hid m8
          have HB8 := Lib.hid (below_then HB.out b8)
          clear s8 r8 m8 t8 b8 HCA
          go_wp2_with fail
          refine HCB.out.mono ?_; rintro e w9 ⟨g9, cap9, P9, rfl, s9, r9, m9, t9, b9⟩
          have HM9 := Lib.hid m9
          have HS9 := Lib.hid s9
          have HR9 := Lib.hid r9
          have H29 := Lib.hid t9
          have HB9 := Lib.hid (below_then HB8.out b9)
          clear s9 r9 m9 t9 b9 HCB
          go_wp2_with fail
          go_ret
          exact ⟨g9, cap9, P9, rfl, HS9.out, HR9.out, by rw [HFO.out, putsR, ← HE.out, ← HM8.out]; exact HM9.out, H29.out, HB9.out⟩
        · have f2 : (r == n - 1) = false := beq_eq_false_iff_ne.2 (fun e => hc ⟨beq_iff_eq.1 f1, e⟩)
          clear hc
          go_enter Try.func161, Try.ntmps161
          go_wp2_with fail
          refine HCALL.out.mono ?_; rintro e wp ⟨g2, cap2, rfl, s2, b2⟩
          have HS := Lib.hid (s2.mono (Nat.le_trans HBS0.out (by simp)))
          have HR := Lib.hid (HRN.out.below b2)
          have HB := Lib.hid (below_then HBX.out b2)
          have HBS := Lib.hid (Nat.le_trans HBS0.out HB.out.size)
          clear s2 b2 HCALL HRN HBX
          have HLN := Lib.hid (show (putG dP ltP Ps ((.slice (some ⟨w.heap.size, 0, none⟩) 2 2 : Value), [l, r])).length + a.size + b.size ≤ 50 by have := HL.out; have := HOL.out; omega)
          have HE := HSN
          have H2 := H2N
          clear HSN H2N
          generalize putG dP ltP Ps _ = R at *
          go_wp2_with fail
          have HEND := Lib.hid (l6End_any t (by have := HTZ.out; omega) t.size 1 wp (by omega) (by have := HTZ.out; omega))
          rw [HX.out.1] at HEND
          have HND := Lib.hid (specNodesOf_any (S (txT a)) wp (by rw [S_size]; have := HLA.out; omega))
          rw [L_S, ndR_some (ptR_txT ha8), ← HX.out.2.1] at HND
          have HCA := Lib.hid (iha.out l (l + (a.size : Int) + 1) g2 cap2 R wp b0 ha8 rfl hl0 (by have := HRL.out; omega) HS.out HR.out H2.out (by have := HLN.out; omega) HBS.out)
          rw [← HX.out.2.1] at HCA
          go_wp2_with fail
          refine HEND.out.mono ?_; rintro e wq ⟨rfl, rfl⟩
          go_wp2_with fail
          refine HND.out.mono ?_; rintro e wq ⟨rfl, rfl⟩
          go_wp2_with fail
          refine HCA.out.mono ?_; rintro e w8 ⟨g8, cap8, P8, rfl, s8, r8, m8, t8, b8⟩
          have HCB := Lib.hid (ihb.out (l + (a.size : Int) + 1) r g8 cap8 P8 w8 b0 hb8 (by have := HRL.out; omega) (by omega) hrn s8 r8 t8 (by have := congrArg List.length m8; rw [List.length_map, foldl_put_len, List.length_map] at this; have := cutN_len n a l (l + (a.size : Int) + 1); have := HLN.out; omega) (Nat.le_trans HBS.out b8.size))
          rw [← HX.out.2.2] at HCB
          have HM8 := Lib.hid m8
          have HB8 := Lib.hid (below_then HB.out b8)
          clear s8 r8 m8 t8 b8 HCA
          go_wp2_with fail
          refine HCB.out.mono ?_; rintro e w9 ⟨g9, cap9, P9, rfl, s9, r9, m9, t9, b9⟩
          have HM9 := Lib.hid m9
          have HS9 := Lib.hid s9
          have HR9 := Lib.hid r9
          have H29 := Lib.hid t9
          have HB9 := Lib.hid (below_then HB8.out b9)
          clear s9 r9 m9 t9 b9 HCB
          go_wp2_with fail
          go_ret
          exact ⟨g9, cap9, P9, rfl, HS9.out, HR9.out, by rw [HFO.out, putsR, ← HE.out, ← HM8.out]; exact HM9.out, H29.out, HB9.out⟩
      exact main _ rfl
end Go.Proofs.Ytnkkgfeegaiakaa
