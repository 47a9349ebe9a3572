/- Contracts of IsPlane at a plane, of PlaneOf at a path, and of LeavesOf at a plane, both sides. Conditions: the word is a path; the list is a plane. -/
import Derived.Test.YtngfkajfbgfncaaPlane
import Derived.Test.YtngfkajfbgfncaaPlain24
import Derived.Test.YtngfkajfbgfncaaNum
import Derived.Test.YtngfkajfbgfncaaStack
namespace Go.Proofs.Ytngfkajfbgfncaa
open Go.RowKit
theorem OwI.shapeP {w : World} {base : Nat} {v : Value} {xs : List Int} (h : OwI w base v xs) (h0 : 0 < xs.length) : ∃ g cap, v = .slice (some ⟨g, 0, none⟩) xs.length cap := by
  rcases h.shape with ⟨_, e⟩ | ⟨g, cap, e, _⟩
  · rw [e] at h0; simp at h0
  · exact ⟨g, cap, e⟩
set_option maxHeartbeats 1000000 in
theorem implIsPlane_any (v : Value) (p : List Int) (w : World) (hv : RdI w v p) (hp : PL p) (hl : p.length ≤ 9) :
    Calls Try.prog 272 #[v] w fun e w' => e = .returned (.bool true) ∧ w = w' := by
  obtain ⟨A, c, rfl, hc, hll, hA⟩ := hv
  have hpos := hp.pos
  obtain ⟨b, o, rfl, hb, hcl⟩ := hA hpos
  have c0 := hcl 0 hpos
  have h0 : p[0] = -1 := by have := hp.root; rwa [getD_of hpos] at this
  rw [h0, Nat.add_zero] at c0
  have HP := Lib.hid hp
  have HCL := Lib.hid hcl
  clear hcl hA hp h0
  go_enter Try.func272, Try.ntmps272
  go_wp2_with (go_at_call 168; refine (within_yes _ _ _ _ (by omega) (by omega)).mono ?_; rintro e w' ⟨rfl, rfl⟩)
  go_loop [3] (fun i => ∃ k : Nat, 1 ≤ k ∧ k ≤ p.length ∧ i = .int .i64 k) (fun i => p.length - (intOf i).toNat)
  case atStart => exact ⟨1, by omega, by omega, rfl⟩
  case round =>
    obtain ⟨k, h1, hk, rfl⟩ := hrel
    by_cases hlt : k < p.length
    · obtain ⟨j, hj, hji, hup⟩ := HP.out.chain k h1 hlt
      rw [getD_of hlt] at hj
      have ck := HCL.out k hlt
      rw [hj] at ck
      have HU := Lib.hid hup
      have hkk : ((k : Int) - 1) = ((k - 1 : Nat) : Int) := by omega
      clear hup hj
      go_wp2_with fail
      go_loop [4] (fun v => ∃ u : Nat, u < k ∧ v = .int .i64 (u : Int) ∧ Hid (Up p j u)) (fun v => (intOf v).toNat)
      case atStart => exact ⟨k - 1, by omega, by go_num, HU.out⟩
      case round =>
        clear HU hkk
        obtain ⟨u, hu, rfl, HUp⟩ := hrel
        have hu0 : (0 : Int) ≤ (u : Int) := by omega
        by_cases hne : u = j
        · subst hne
          have f1 : ((u : Int) != (u : Int)) = false := by simp
          go_wp2_with fail
          go_round
          case rel => exact ⟨k + 1, by omega, by omega, by go_num⟩
          case measure => simp [intOf]; omega
        · obtain ⟨t, ht, htu, hut⟩ := HUp.out.step hne
          have hul : u < p.length := by omega
          have hui : (u : Int) < (p.length : Int) := by omega
          rw [getD_of hul] at ht
          have cu := HCL.out u hul
          rw [ht] at cu
          have f1 : ((u : Int) != (j : Int)) = true := by simp; omega
          have HT := Lib.hid hut
          clear hne ht hut HUp
          go_wp2_with fail
          go_round
          case rel => exact ⟨t, by omega, rfl, HT.out⟩
          case measure => simp [intOf]; omega
    · go_wp2_with fail
      go_ret
      exact ⟨rfl, rfl⟩
set_option maxHeartbeats 1000000 in
theorem implLeavesOf_any (v : Value) (p : List Int) (w : World) (hv : RdI w v p) (hp : PL p) (hl : p.length ≤ 9) :
    Calls Try.prog 255 #[v] w fun e w' => e = .returned (.int .i64 ((lvN p p.length : Nat) : Int)) ∧ Below w.heap.size w w' := by
  have HV := Lib.hid hv
  have HP := Lib.hid hp
  obtain ⟨A, c, rfl, hc, hll, hA⟩ := hv
  clear hp hA
  go_enter Try.func255, Try.ntmps255
  go_wp2_with fail
  go_loopw [3, 7] (fun n i wr => ∃ k : Nat, k ≤ p.length ∧ i = .int .i64 k ∧ n = .int .i64 ((lvN p k : Nat) : Int) ∧ Below w.heap.size w wr) (fun _ i _ => p.length - (intOf i).toNat)
  case atStart => exact ⟨0, by omega, rfl, rfl, Below.refl _ _⟩
  case round =>
    obtain ⟨k, hk, rfl, rfl, hB⟩ := hrel
    have hlv := lvN_le p k
    by_cases hlt : k < p.length
    · have hv := HV.out.below hB
      have HI := Lib.hid (implIsPlane_any _ _ _ hv HP.out hl)
      have HC := Lib.hid (implChildrenOf_any _ _ k _ hv (by omega) fun wq hq => (to_below' (implIsPlane_any _ _ _ (hv.below hq) HP.out hl)))
      have hcl := chN_len p (k : Int) p.length
      clear hv
      go_wp2_with (first | (go_at_call 272; refine HI.out.mono ?_; rintro e w' ⟨rfl, rfl⟩) | (go_at_call 273; refine HC.out.mono ?_; rintro e w2 ⟨r, rfl, o2, b2⟩; obtain ⟨rA, rc, rfl, _⟩ := id o2.rd; have B2 := below_then hB b2; clear o2 b2))
      · have hq : (((chN p (k : Int) p.length).length : Int) == 0) = true := by assumption
        go_roundw
        case rel =>
          have : (chN p (k : Int) p.length).length = 0 := by have := eq_of_beq hq; omega
          exact ⟨k + 1, by omega, by go_num, by rw [show lvN p (k + 1) = lvN p k + 1 from by rw [lvN, if_pos this]]; go_num, B2⟩
        case measure => simp [intOf]; omega
      · have hq : (((chN p (k : Int) p.length).length : Int) == 0) = false := by assumption
        go_roundw
        case rel =>
          have : ¬ (chN p (k : Int) p.length).length = 0 := by have := ne_of_beq_false hq; omega
          exact ⟨k + 1, by omega, by go_num, by rw [show lvN p (k + 1) = lvN p k + 0 from by rw [lvN, if_neg this]]; rfl, B2⟩
        case measure => simp [intOf]; omega
    · have hke : k = p.length := by omega
      subst hke
      go_wp2_with fail
      go_ret
      exact ⟨rfl, hB⟩
set_option maxHeartbeats 1600000 in
theorem implPlaneOf_any (s : ByteArray) (w : World) (hp : DyckP (L s)) :
    Calls Try.prog 254 #[.string s] w (RetIB w ((plS (L s)).p, true)) := by
  have hl16 := hp.1
  rw [L_len] at hl16
  have HD := Lib.hid hp
  have HP0 := implIsDyck_any s w
  simp only [decide_eq_true hp] at HP0
  clear hp
  go_enter Try.func254, Try.ntmps254
  go_wp2_with fail
  refine HP0.mono ?_; rintro e w1 ⟨rfl, b1⟩
  clear HP0
  have hs1 := b1.size
  have ownp := OwI.one w1 (-1) w.heap.size hs1
  have Bp : Below w.heap.size w (w1.alloc (.cells #[.int .i64 (-1)] 3)) := b1.alloc hs1 _
  go_wp2_with fail
  have hw2 : (w1.alloc (.cells #[.int .i64 (-1)] 3)).heap.size = w1.heap.size + 1 := by simp
  generalize w1.alloc (.cells #[.int .i64 (-1)] 3) = w2 at ownp Bp hw2 ⊢
  have owns := OwI.one w2 0 w.heap.size Bp.size
  have Bs : Below w.heap.size w (w2.alloc (.cells #[.int .i64 0] 3)) := Bp.alloc Bp.size _
  have ownp := ownp.below ((Below.refl w2.heap.size w2).alloc (Nat.le_refl _) (.cells #[.int .i64 0] 3))
  rw [hw2] at owns
  have hap0 : Apart (.slice (some ⟨w1.heap.size, 0, none⟩) 1 1) (.slice (some ⟨w1.heap.size + 1, 0, none⟩) 1 1) := fun g h1 h2 => by
    simp [Value.ownBlock] at h1 h2; omega
  clear hw2
  generalize w2.alloc (.cells #[.int .i64 0] 3) = w3 at ownp owns Bs ⊢
  go_loopw [4, 5, 6] (fun pv st i wr => ∃ (k : Nat) (t : PlS), k ≤ s.size ∧ i = .int .i64 k ∧ OwI wr w.heap.size pv t.p ∧ OwI wr w.heap.size st t.st ∧ Apart pv st ∧ Hid (PlInv (L s) k t) ∧ Below w.heap.size w wr) (fun _ _ i _ => s.size - (intOf i).toNat)
  case atStart => exact ⟨0, _, by omega, rfl, ownp, owns, hap0, PlInv.start (L s), Bs⟩
  case round =>
    clear ownp owns Bs Bp hap0 b1 hs1
    obtain ⟨k, t, hk, rfl, hpp, hst, hap, HI, hB⟩ := hrel
    have hsz := hB.size
    have hpl := HI.out.len
    by_cases hlt : k < s.size
    · have hlL : k < (L s).length := by rw [L_len]; exact hlt
      have hg : (L s)[k] = s[k] := L_get s k hlt
      have hsl : t.st.length ≤ 17 := by have h0 := HI.out.ht; have h2 := hN_le (L s) HD.out k (by omega); omega
      by_cases hu : s[k].toNat = 117
      · have f1 : (((s[k].toNat : Nat) : Int) == 100) = false := by simp; omega
        have HN := Lib.hid (HI.out.up HD.out hlL (by rw [hg]; exact hu))
        have hs0 : 0 < t.st.length := by have h0 := HI.out.ht; omega
        obtain ⟨g, cap, rfl⟩ := hst.shapeP hs0
        have hsl1 : t.st.length - 1 < t.st.length := by omega
        have c1 := hst.cellAt _ hsl1
        have hlast : t.st.getLastD 0 = t.st[t.st.length - 1] := by
          rw [List.getLastD_eq_getLast?, List.getLast?_eq_getElem?, List.getElem?_eq_getElem hsl1]; rfl
        rw [hlast] at HN
        have hq : ((t.st.length : Int) - 1) = ((t.st.length - 1 : Nat) : Int) := by omega
        generalize t.st[t.st.length - 1] = x at c1 HN
        have hlenp : t.p.length < 1099511627776 := by omega
        have hlens : t.st.length < 1099511627776 := by omega
        clear hu hlast
        go_wp2_with (at_builtin; refine wpList_appI _ rfl _ _ rfl w.heap.size _ _ rfl hpp _ rfl rfl hlenp hsz ?_)
        intro v' w4 hp4 hg4 hat4
        have hB4 := below_of_own hB hg4 hsz (fun g hg => (hpp.lt g hg).1)
        have R := (OwI_is.1 hst).after_app hap hg4 hat4
        have HR := Lib.hid R
        have hsz4 := hB4.size
        clear R hpp hap hg4 hat4
        obtain ⟨pA, pc, rfl, _⟩ := id hp4.rd
        have hst4 := OwI_is.2 HR.out.1
        have HLQ := Lib.hid (show (t.p ++ [x]).length = t.p.length + 1 by simp)
        go_wp2_with (at_builtin; refine wpList_appI _ rfl _ _ rfl w.heap.size _ _ rfl hst4 _ rfl rfl hlens hsz4 ?_)
        intro v' w5 hs5 hg5 hat5
        have hB5 := below_of_own hB4 hg5 hsz4 (fun g hg => (hst4.lt g hg).1)
        have R := (OwI_is.1 hp4).after_app HR.out.2.symm hg5 hat5
        have HR5 := Lib.hid R
        clear R hst hst4 hp4 hg5 hat5 HR
        go_wp2_with fail
        go_roundw
        case rel => exact ⟨k + 1, ⟨t.p ++ [x], t.st ++ [(t.p.length : Int)]⟩, by omega, by go_num, by have := HR5.out.1; rw [HLQ.out] at this; exact OwI_is.2 this, hs5, by have := HR5.out.2.symm; rw [HLQ.out] at this; exact this, HN.out, hB5⟩
        case measure => simp [intOf]; omega
      · have hu' : ¬ (L s)[k].toNat = 117 := by rw [hg]; exact hu
        have hd : s[k].toNat = 100 := by have := (dyck_letter HD.out hlL).resolve_left hu'; rw [hg] at this; exact this
        have f1 : (((s[k].toNat : Nat) : Int) == 100) = true := by simp; omega
        obtain ⟨ys, x, u, hys, hy0, _, _, _⟩ := HI.out.pop HD.out hlL hu'
        have HN := Lib.hid (HI.out.down HD.out hlL hu')
        have hdl : t.st.dropLast = ys := by rw [hys]; simp
        rw [hdl] at HN
        rw [hys] at hst
        obtain ⟨g, cap, rfl, hgb, hgs, hcx, hcap, hst2⟩ := OwR.pop (OwI_is.1 hst)
        have hyc : ys.length ≤ cap := by omega
        have hyl : ys.length ≤ 17 := by rw [← hdl]; simp; omega
        clear hu hu' hd hys hcx hst hdl
        go_wp2_with fail
        go_roundw
        case rel => exact ⟨k + 1, ⟨t.p, ys⟩, by omega, by go_num, hpp, hst2, (fun j h1 h2 => hap j h1 h2), HN.out, hB⟩
        case measure => simp [intOf]; omega
    · have hke : k = s.size := by omega
      have HV := Lib.hid (show ((plS (L s)).p, true) = (t.p, true) by have := HI.out.is; rw [hke, ← L_len, List.take_length] at this; rw [this])
      go_wp2_with fail
      go_ret2
      exact RetIB.mk HV.out hpp hB
set_option maxHeartbeats 1000000 in
theorem specIsPlane_any (v : Value) (p : List Int) (w : World) (hv : RdI w v p) (hp : PL p) (hl : p.length ≤ 9) :
    Calls Try.prog 269 #[v] w fun e w' => e = .returned (.bool true) ∧ w = w' := by
  obtain ⟨A, c, rfl, hc, hll, hA⟩ := hv
  have hpos := hp.pos
  obtain ⟨b, o, rfl, hb, hcl⟩ := hA hpos
  have h0 : p[0] = -1 := by have := hp.root; rwa [getD_of hpos] at this
  have HP := Lib.hid hp
  have HCL := Lib.hid hcl
  have H0 := Lib.hid h0
  clear hcl hA hp h0
  go_enter Try.func269, Try.ntmps269
  go_wp2_with fail
  go_loop [3] (fun i => ∃ k : Nat, k ≤ p.length ∧ i = .int .i64 k) (fun i => p.length - (intOf i).toNat)
  case atStart => exact ⟨0, by omega, rfl⟩
  case round =>
    obtain ⟨k, hk, rfl⟩ := hrel
    by_cases hlt : k < p.length
    · rcases k with _ | m
      · have c0 := HCL.out 0 hpos
        rw [H0.out, Nat.add_zero] at c0
        go_wp2_with fail
        go_loop [4, 5] (fun f v => f = .bool true ∧ v = .int .i64 (-1)) (fun _ _ => 0)
        case atStart => exact ⟨rfl, rfl⟩
        case round =>
          obtain ⟨rfl, rfl⟩ := hrel
          go_wp2_with fail
          go_round
          case rel => exact ⟨1, by omega, by go_num⟩
          case measure => simp [intOf]; omega
      · obtain ⟨j, hj, hji, hup⟩ := HP.out.chain (m + 1) (by omega) hlt
        rw [getD_of hlt] at hj
        have ck := HCL.out (m + 1) hlt
        rw [hj] at ck
        have HU := Lib.hid (show Up p j m from hup)
        obtain ⟨K, hK⟩ : ∃ K : Nat, K = m + 1 := ⟨_, rfl⟩
        rw [← hK] at ck hlt hk hji ⊢
        have hk1 : 1 ≤ K := by omega
        have f0 : ((K : Int) == 0) = false := by simp; omega
        have hkk : ((K : Int) - 1) = ((K - 1 : Nat) : Int) := by omega
        have hm : m = K - 1 := by omega
        subst hm
        clear hup hj hK
        go_wp2_with (go_at_call 175; refine (l1In_yes _ _ _ _ (by omega) (by omega)).mono ?_; rintro e w' ⟨rfl, rfl⟩)
        go_loop [4, 5] (fun f v => ∃ (fb : Bool) (x : Int), f = .bool fb ∧ v = .int .i64 x ∧ -1 ≤ x ∧ x < (K : Int) ∧ (fb = true ∨ ∃ u : Nat, x = (u : Int) ∧ Hid (Up p j u))) (fun _ v => (intOf v + 1).toNat)
        case atStart => exact ⟨false, ((K - 1 : Nat) : Int), rfl, by go_num, by omega, by omega, .inr ⟨K - 1, rfl, HU.out⟩⟩
        case round =>
          clear HU hkk
          obtain ⟨fb, x, rfl, rfl, hx1, hx2, hor⟩ := hrel
          by_cases hx0 : 0 ≤ x
          · obtain ⟨u, rfl⟩ := Int.eq_ofNat_of_zero_le hx0
            have hul : u < p.length := by omega
            have hui : (u : Int) < (p.length : Int) := by omega
            have cu := HCL.out u hul
            obtain ⟨y, hy, hy1, hy2⟩ : ∃ y, p[u] = y ∧ -1 ≤ y ∧ y < (u : Int) := by
              refine ⟨_, rfl, ?_⟩
              rcases Nat.eq_zero_or_pos u with h | h
              · subst h
                rw [H0.out]; omega
              · obtain ⟨t, ht, htu, _⟩ := HP.out.chain u h hul
                rw [getD_of hul] at ht
                rw [ht]; omega
            rw [hy] at cu
            by_cases hne : u = j
            · have f1 : ((u : Int) == (j : Int)) = true := by simp; omega
              clear hor hne hy
              rcases fb with _ | _
              · go_wp2_with fail
                go_round
                case rel => exact ⟨true, y, rfl, rfl, by omega, by omega, .inl rfl⟩
                case measure => simp [intOf]; omega
              · go_wp2_with fail
                go_round
                case rel => exact ⟨true, y, rfl, rfl, by omega, by omega, .inl rfl⟩
                case measure => simp [intOf]; omega
            · have f1 : ((u : Int) == (j : Int)) = false := by simp; omega
              have HOR : Hid (fb = true ∨ ∃ t : Nat, y = (t : Int) ∧ Hid (Up p j t)) := by
                rcases hor with h | ⟨u', hu', hu2⟩
                · exact .inl h
                · obtain rfl : u = u' := by omega
                  obtain ⟨t, ht, htu, hut⟩ := hu2.out.step hne
                  rw [getD_of hul, hy] at ht
                  exact .inr ⟨t, ht, hut⟩
              clear hor hne hy
              rcases fb with _ | _
              · go_wp2_with fail
                go_round
                case rel => exact ⟨false, y, rfl, rfl, by omega, by omega, HOR.out⟩
                case measure => simp [intOf]; omega
              · go_wp2_with fail
                go_round
                case rel => exact ⟨true, y, rfl, rfl, by omega, by omega, .inl rfl⟩
                case measure => simp [intOf]; omega
          · have hft : fb = true := by
              rcases hor with h | ⟨u, hu, _⟩
              · exact h
              · omega
            subst hft
            clear hor
            go_wp2_with fail
            go_round
            case rel => exact ⟨K + 1, by omega, by go_num⟩
            case measure => simp [intOf]; omega
    · go_wp2_with (go_at_call 175; refine (l1In_yes _ _ _ _ (by omega) (by omega)).mono ?_; rintro e w' ⟨rfl, rfl⟩)
      go_ret
      exact ⟨rfl, rfl⟩
set_option maxHeartbeats 1000000 in
theorem specLeavesOf_any (v : Value) (p : List Int) (w : World) (hv : RdI w v p) (hp : PL p) (hl : p.length ≤ 9) :
    Calls Try.prog 251 #[v] w fun e w' => e = .returned (.int .i64 ((lvN p p.length : Nat) : Int)) ∧ Below w.heap.size w w' := by
  have HV := Lib.hid hv
  have HP := Lib.hid hp
  obtain ⟨A, c, rfl, hc, hll, hA⟩ := hv
  clear hp hA
  go_enter Try.func251, Try.ntmps251
  go_wp2_with fail
  go_loopw [3, 4] (fun n i wr => ∃ k : Nat, k ≤ p.length ∧ i = .int .i64 k ∧ n = .int .i64 ((lvN p k : Nat) : Int) ∧ Below w.heap.size w wr) (fun _ i _ => p.length - (intOf i).toNat)
  case atStart => exact ⟨0, by omega, rfl, rfl, Below.refl _ _⟩
  case round =>
    obtain ⟨k, hk, rfl, rfl, hB⟩ := hrel
    have hlv := lvN_le p k
    have hv := HV.out.below hB
    have HI := Lib.hid (specIsPlane_any _ _ _ hv HP.out hl)
    by_cases hlt : k < p.length
    · have h1 : p[0]'(HP.out.pos) = -1 := by have := HP.out.root; rwa [getD_of HP.out.pos] at this
      have HC := Lib.hid (specChildrenOf_any _ _ k _ hv (by omega) HP.out.pos h1 fun wq hq => specIsPlane_any _ _ _ (hv.below hq) HP.out hl)
      have hcl := chN_len p (k : Int) p.length
      clear hv h1
      go_wp2_with (go_at_call 269; refine HI.out.mono ?_; rintro e w' ⟨rfl, rfl⟩)
      refine HC.out.mono ?_; rintro e w2 ⟨r, rfl, o2, b2⟩; obtain ⟨rA, rc, rfl, _⟩ := id o2.rd; have B2 := below_then hB b2; clear o2 b2
      by_cases hq : (chN p (k : Int) p.length).length = 0
      · have f1 : (((chN p (k : Int) p.length).length : Int) == 0) = true := beq_iff_eq.2 (by omega)
        have HE := Lib.hid (show lvN p (k + 1) = lvN p k + 1 from by rw [lvN, if_pos hq])
        clear hq
        go_wp2_with fail
        go_roundw
        case rel => exact ⟨k + 1, by omega, by go_num, by rw [HE.out]; go_num, B2⟩
        case measure => simp [intOf]; omega
      · have f1 : (((chN p (k : Int) p.length).length : Int) == 0) = false := beq_eq_false_iff_ne.2 (by omega)
        have HE := Lib.hid (show lvN p (k + 1) = lvN p k + 0 from by rw [lvN, if_neg hq])
        clear hq
        go_wp2_with fail
        go_roundw
        case rel => exact ⟨k + 1, by omega, by go_num, by rw [HE.out]; rfl, B2⟩
        case measure => simp [intOf]; omega
    · have hke : k = p.length := by omega
      subst hke
      go_wp2_with fail
      go_ret
      exact ⟨rfl, hB⟩
set_option maxHeartbeats 1600000 in
theorem specPlaneOf_any (s : ByteArray) (w : World) (hp : DyckP (L s)) (hs : s.size ≤ 1099511627776) :
    Calls Try.prog 250 #[.string s] w (RetIB w ((plS (L s)).p, true)) := by
  have hl16 := hp.1
  rw [L_len] at hl16
  have HD := Lib.hid hp
  have HP0 : ∀ wq, Calls Try.prog 173 #[.string s] wq fun e w' => e = .returned (.bool true) ∧ wq = w' := fun wq => by
    have := specIsDyck_any s wq hs
    simpa only [decide_eq_true hp] using this
  have HP1 := Lib.hid HP0
  clear hp HP0
  have ownp := OwI.one w (-1) w.heap.size (Nat.le_refl _)
  have Bp : Below w.heap.size w (w.alloc (.cells #[.int .i64 (-1)] 3)) := (Below.refl _ _).alloc (Nat.le_refl _) _
  go_enter Try.func250, Try.ntmps250
  go_wp2_with fail
  generalize w.alloc (.cells #[.int .i64 (-1)] 3) = w2 at ownp Bp ⊢
  go_loopw [4, 5, 6] (fun pv at_ i wr => ∃ (k x : Nat) (t : PlS), k ≤ s.size ∧ i = .int .i64 k ∧ at_ = .int .i64 (x : Int) ∧ t.st.getLastD 0 = (x : Int) ∧ OwI wr w.heap.size pv t.p ∧ Hid (PlInv (L s) k t) ∧ Below w.heap.size w wr) (fun _ _ i _ => s.size - (intOf i).toNat)
  case atStart => exact ⟨0, 0, _, by omega, rfl, rfl, rfl, ownp, PlInv.start (L s), Bp⟩
  case round =>
    clear ownp Bp
    obtain ⟨k, x, t, hk, rfl, rfl, hlast, hpp, HI, hB⟩ := hrel
    have HPk := Lib.hid (HP1.out wr)
    have hsz := hB.size
    have hpl := HI.out.len
    by_cases hlt : k < s.size
    · have hlL : k < (L s).length := by rw [L_len]; exact hlt
      have hg : (L s)[k] = s[k] := L_get s k hlt
      by_cases hu : s[k].toNat = 117
      · have f1 : (((s[k].toNat : Nat) : Int) == 117) = true := by simp; omega
        have HN0 := HI.out.up HD.out hlL (by rw [hg]; exact hu)
        rw [hlast] at HN0
        have HN := Lib.hid HN0
        have hlenp : t.p.length < 1099511627776 := by omega
        clear hu HN0 hlast
        go_wp2_with (first | (go_at_call 173; refine HPk.out.mono ?_; rintro e w' ⟨rfl, rfl⟩) | (at_builtin; refine wpList_appI _ rfl _ _ rfl w.heap.size _ _ rfl hpp _ rfl rfl hlenp hsz ?_))
        intro v' w4 hp4 hg4 hat4
        have hB4 := below_of_own hB hg4 hsz (fun g hg => (hpp.lt g hg).1)
        clear hpp hg4 hat4
        obtain ⟨pA, pc, rfl, _⟩ := id hp4.rd
        go_wp2_with fail
        go_roundw
        case rel => exact ⟨k + 1, t.p.length, ⟨t.p ++ [(x : Int)], t.st ++ [(t.p.length : Int)]⟩, by omega, by go_num, by simp, by simp, hp4, HN.out, hB4⟩
        case measure => simp [intOf]; omega
      · have hu' : ¬ (L s)[k].toNat = 117 := by rw [hg]; exact hu
        have f1 : (((s[k].toNat : Nat) : Int) == 117) = false := by simp; omega
        obtain ⟨ys, x', u, hys, hy0, hxl, hxu, hyu⟩ := HI.out.pop HD.out hlL hu'
        have HN := Lib.hid (HI.out.down HD.out hlL hu')
        have hdl : t.st.dropLast = ys := by rw [hys]; simp
        rw [hdl] at HN
        obtain rfl : x = x' := by rw [hys] at hlast; simp at hlast; omega
        obtain ⟨g, cap, rfl⟩ := hpp.shapeP (by omega)
        have c1 := hpp.cellAt x hxl
        rw [getD_of hxl] at hxu
        rw [hxu] at c1
        have hxi : (x : Int) < (t.p.length : Int) := by omega
        clear hu hu' hys hdl hlast hxu
        go_wp2_with (go_at_call 173; refine HPk.out.mono ?_; rintro e w' ⟨rfl, rfl⟩)
        go_roundw
        case rel => exact ⟨k + 1, u, ⟨t.p, ys⟩, by omega, by go_num, rfl, hyu, hpp, HN.out, hB⟩
        case measure => simp [intOf]; omega
    · have hke : k = s.size := by omega
      have HV := Lib.hid (show ((plS (L s)).p, true) = (t.p, true) by have := HI.out.is; rw [hke, ← L_len, List.take_length] at this; rw [this])
      go_wp2_with (go_at_call 173; refine HPk.out.mono ?_; rintro e w' ⟨rfl, rfl⟩)
      go_ret2
      exact RetIB.mk HV.out hpp hB
end Go.Proofs.Ytngfkajfbgfncaa
