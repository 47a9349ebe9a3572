/- Contract of the program's Avoiders. No condition but the pattern's size. -/
import Derived.Test.YtnkkgfeegaiakaaAvoidImpl
namespace Go.Proofs.Ytnkkgfeegaiakaa
open Go.RowKit
theorem heap_six (w : World) (A B C D E G : Obj) :
    ((((((w.alloc A).alloc B).alloc C).alloc D).alloc E).alloc G).heap[w.heap.size]? = some A ∧
    ((((((w.alloc A).alloc B).alloc C).alloc D).alloc E).alloc G).heap[w.heap.size + 1]? = some B ∧
    ((((((w.alloc A).alloc B).alloc C).alloc D).alloc E).alloc G).heap[w.heap.size + 1 + 1 + 1]? = some D ∧
    ((((((w.alloc A).alloc B).alloc C).alloc D).alloc E).alloc G).heap[w.heap.size + 1 + 1 + 1 + 1]? = some E ∧
    ((((((w.alloc A).alloc B).alloc C).alloc D).alloc E).alloc G).heap.size = w.heap.size + 6 := by
  refine ⟨?_, ?_, ?_, ?_, ?_⟩
  · show ((((((w.heap.push A).push B).push C).push D).push E).push G)[w.heap.size]? = _
    simp only [Array.getElem?_push, Array.size_push]
    rw [if_neg (by omega), if_neg (by omega), if_neg (by omega), if_neg (by omega), if_neg (by omega), if_pos (by first | trivial | omega)]
  · show ((((((w.heap.push A).push B).push C).push D).push E).push G)[w.heap.size + 1]? = _
    simp only [Array.getElem?_push, Array.size_push]
    rw [if_neg (by omega), if_neg (by omega), if_neg (by omega), if_neg (by omega), if_pos (by first | trivial | omega)]
  · show ((((((w.heap.push A).push B).push C).push D).push E).push G)[w.heap.size + 1 + 1 + 1]? = _
    simp only [Array.getElem?_push, Array.size_push]
    rw [if_neg (by omega), if_neg (by omega), if_pos (by first | trivial | omega)]
  · show ((((((w.heap.push A).push B).push C).push D).push E).push G)[w.heap.size + 1 + 1 + 1 + 1]? = _
    simp only [Array.getElem?_push, Array.size_push]
    rw [if_neg (by omega), if_pos (by first | trivial | omega)]
  · show ((((((w.heap.push A).push B).push C).push D).push E).push G).size = _
    simp
theorem BoxA.start (w : World) (tm : TypeId) (n : Nat) (pat : ByteArray) (F : Value) :
    BoxA ((((((w.alloc (.cells #[.int .i64 (n : Int)] 3)).alloc (.cells #[.string pat] 9)).alloc (.cells #[] 38)).alloc (.cells #[.slice (some ⟨w.heap.size + 1 + 1, 0, none⟩) 0 0] 22)).alloc (.cells #[F] tm)).alloc (.cells #[] 3))
      w.heap.size (w.heap.size + 5) w.heap.size (w.heap.size + 1) (w.heap.size + 1 + 1 + 1) (w.heap.size + 1 + 1 + 1 + 1) tm F (.slice (some ⟨w.heap.size + 1 + 1, 0, none⟩) 0 0) n pat [] := by
  obtain ⟨h1, h2, h3, h4, _⟩ := heap_six w (.cells #[.int .i64 (n : Int)] 3) (.cells #[.string pat] 9) (.cells #[] 38) (.cells #[.slice (some ⟨w.heap.size + 1 + 1, 0, none⟩) 0 0] 22) (.cells #[F] tm) (.cells #[] 3)
  refine ⟨h1, h2, h3, h4, ?_, RowsOk.nil_ _ _, fun x hx e => ?_, by omega, by omega⟩
  · have hz : ((w.alloc (.cells #[.int .i64 (n : Int)] 3)).alloc (.cells #[.string pat] 9)).heap.size = w.heap.size + 1 + 1 := by simp
    have s := Spine.empty_ ((w.alloc (.cells #[.int .i64 (n : Int)] 3)).alloc (.cells #[.string pat] 9)) w.heap.size (by rw [hz]; omega)
    rw [hz] at s
    exact ((s.below ((Below.refl _ _).alloc (Nat.le_refl _) _)).below ((Below.refl _ _).alloc (Nat.le_refl _) _)).below ((Below.refl _ _).alloc (Nat.le_refl _) _)
  · simp only [Value.ownBlock, Option.map_some, Option.some.injEq] at e
    omega
theorem below_six (w : World) (A B C D E G : Obj) : Below w.heap.size w ((((((w.alloc A).alloc B).alloc C).alloc D).alloc E).alloc G) :=
  (((((((Below.refl _ _).alloc (Nat.le_refl _) _).alloc (by simp) _).alloc (by simp; omega) _).alloc (by simp; omega) _).alloc (by simp; omega) _).alloc (by simp; omega) _)
theorem retA_no {w : World} {n : Int} {pat : ByteArray} {R : List (List Int) × Bool} (h : R = ([], false)) :
    RetSSB w R (.returned (.tuple #[.slice (some ⟨w.heap.size + 1 + 1, 0, none⟩) 0 0, .bool false])) ((((w.alloc (.cells #[.int .i64 n] 3)).alloc (.cells #[.string pat] 9)).alloc (.cells #[] 38)).alloc (.cells #[.slice (some ⟨w.heap.size + 1 + 1, 0, none⟩) 0 0] 22)) := by
  have hz : ((w.alloc (.cells #[.int .i64 n] 3)).alloc (.cells #[.string pat] 9)).heap.size = w.heap.size + 1 + 1 := by simp
  have s := Spine.empty_ ((w.alloc (.cells #[.int .i64 n] 3)).alloc (.cells #[.string pat] 9)) w.heap.size (by rw [hz]; omega)
  rw [hz] at s
  have s2 := s.below ((Below.refl _ _).alloc (Nat.le_refl _) (.cells #[.slice (some ⟨w.heap.size + 1 + 1, 0, none⟩) 0 0] 22))
  exact RetSSB.mk h (s2.ss (RowsOk.nil_ _ _)) (((((Below.refl _ _).alloc (Nat.le_refl _) _).alloc (by simp) _).alloc (by simp; omega) _).alloc (by simp; omega) _)
set_option maxRecDepth 8000 in
set_option maxHeartbeats 1600000 in
theorem implAvoiders_any (n : Int) (pat : ByteArray) (w : World) (_hp : pat.size ≤ 1099511627776) :
    Calls Try.prog 73 #[.int .i64 n, .string pat] w (RetSSB w (avR n pat.toList)) := by
  have hmf : ∀ (fn : Fn) (first cap : Array Value) (w : World), (Instr.makeFunc fn first cap).run Try.prog w = .ok (.func fn first cap) w := fun _ _ _ _ => rfl
  have hst : ∀ (a : Addr) (fn : Fn) (first cap : Array Value) (md : Mode) (w : World), (store a (.func fn first cap) md).run Try.prog w = stored Try.prog w a (.func fn first cap) md := fun a fn first cap md w => run_store _ w a _ md rfl
  by_cases h : 0 ≤ n ∧ n ≤ 5
  · obtain ⟨m, rfl⟩ := Int.eq_ofNat_of_zero_le h.1
    have hm5 : m ≤ 5 := by omega
    by_cases hpats : pat.toList = [50, 51, 49] ∨ pat.toList = [51, 50, 49]
    · have HV := Lib.hid (show avR (m : Int) pat.toList = ((extL m m []).filter (avo pat.toList), true) by unfold avR; rw [if_pos ⟨h, hpats⟩, Int.toNat_natCast])
      have HPT := Lib.hid hpats
      have f1 : (pat.toList == [50, 51, 49]) = true ∨ ((pat.toList == [50, 51, 49]) = false ∧ (pat.toList == [51, 50, 49]) = true) := by
        rcases hpats with e | e
        · exact .inl (beq_iff_eq.2 e)
        · exact .inr ⟨by rw [e]; rfl, beq_iff_eq.2 e⟩
      have h5 : 5 ^ m ≤ 5 ^ 5 := Nat.pow_le_pow_right (by omega) hm5
      have hz5 : ∀ tm F, (((((w.alloc (.cells #[.int .i64 (m : Int)] 3)).alloc (.cells #[.string pat] 9)).alloc (.cells #[] 38)).alloc (.cells #[.slice (some ⟨w.heap.size + 1 + 1, 0, none⟩) 0 0] 22)).alloc (.cells #[F] tm)).heap.size = w.heap.size + 1 + 1 + 1 + 1 + 1 := fun tm F => by simp
      have HM := Lib.hid (fun tm => moreA_any tm w.heap.size (w.heap.size + 5) w.heap.size (w.heap.size + 1) (w.heap.size + 1 + 1 + 1) (w.heap.size + 1 + 1 + 1 + 1) m hm5 pat hpats m [] _ (w.heap.size + 5) (.slice (some ⟨w.heap.size + 1 + 1 + 1 + 1 + 1, 0, none⟩) 0 0) _ [] (Nat.zero_add m)
        (by have o := OwI.empty_ (((((w.alloc (.cells #[.int .i64 (m : Int)] 3)).alloc (.cells #[.string pat] 9)).alloc (.cells #[] 38)).alloc (.cells #[.slice (some ⟨w.heap.size + 1 + 1, 0, none⟩) 0 0] 22)).alloc (.cells #[avoF w.heap.size (w.heap.size + 1) (w.heap.size + 1 + 1 + 1) (w.heap.size + 1 + 1 + 1 + 1)] tm)) (w.heap.size + 5) (by rw [hz5]; omega)
            rw [hz5] at o
            exact o) (Nat.le_refl _) (by rw [(heap_six w _ _ _ _ _ _).2.2.2.2]; omega) (fun q hq => by cases hq) (BoxA.start w tm m pat _) (below_six w _ _ _ _ _ _).size (by simp only [List.length_nil]; omega))
      clear hpats h5
      rcases f1 with f1 | ⟨f1, f2⟩
      · go_enter Try.func73, Try.ntmps73
        go_wp2_with (go_at_call 178; refine (within_yes _ _ _ _ (by omega) (by omega)).mono ?_; rintro e w' ⟨rfl, rfl⟩)
        refine (HM.out _).mono ?_; rintro e w1 ⟨rfl, v1, Qs, hbox, hq, _, hkept, _⟩
        rw [List.nil_append] at hbox
        have c1 := cell_of_one hbox.co
        have hSS := hbox.sp.ss (hbox.rows.mono (by omega))
        rw [hq] at hSS
        have HSS := Lib.hid hSS
        have HB := Lib.hid (show Below w.heap.size w w1 from (below_six w _ _ _ _ _ _).trans ⟨hkept.os, hkept.tape, hkept.output, hkept.size, fun k hk => hkept.block k (Nat.lt_of_lt_of_le hk (below_six w _ _ _ _ _ _).size) (by omega) (by simp only [Value.ownBlock, Option.map_some, ne_eq, Option.some.injEq]; omega)⟩)
        obtain ⟨A1, n1, rfl⟩ := hbox.sp.shape
        clear hbox hkept hSS
        go_wp2_with fail
        go_ret2
        exact RetSSB.mk HV.out HSS.out HB.out
      · go_enter Try.func73, Try.ntmps73
        go_wp2_with (go_at_call 178; refine (within_yes _ _ _ _ (by omega) (by omega)).mono ?_; rintro e w' ⟨rfl, rfl⟩)
        refine (HM.out _).mono ?_; rintro e w1 ⟨rfl, v1, Qs, hbox, hq, _, hkept, _⟩
        rw [List.nil_append] at hbox
        have c1 := cell_of_one hbox.co
        have hSS := hbox.sp.ss (hbox.rows.mono (by omega))
        rw [hq] at hSS
        have HSS := Lib.hid hSS
        have HB := Lib.hid (show Below w.heap.size w w1 from (below_six w _ _ _ _ _ _).trans ⟨hkept.os, hkept.tape, hkept.output, hkept.size, fun k hk => hkept.block k (Nat.lt_of_lt_of_le hk (below_six w _ _ _ _ _ _).size) (by omega) (by simp only [Value.ownBlock, Option.map_some, ne_eq, Option.some.injEq]; omega)⟩)
        obtain ⟨A1, n1, rfl⟩ := hbox.sp.shape
        clear hbox hkept hSS
        go_wp2_with fail
        go_ret2
        exact RetSSB.mk HV.out HSS.out HB.out
    · have HV := Lib.hid (show avR (m : Int) pat.toList = ([], false) by unfold avR; rw [if_neg (fun q => hpats q.2)])
      have f1 : (pat.toList == [50, 51, 49]) = false := beq_eq_false_iff_ne.2 (fun e => hpats (.inl e))
      have f2 : (pat.toList == [51, 50, 49]) = false := beq_eq_false_iff_ne.2 (fun e => hpats (.inr e))
      clear hpats
      go_enter Try.func73, Try.ntmps73
      go_wp2_with (go_at_call 178; refine (within_yes _ _ _ _ (by omega) (by omega)).mono ?_; rintro e w' ⟨rfl, rfl⟩)
      go_ret2
      exact retA_no HV.out
  · have HV := Lib.hid (show avR n pat.toList = ([], false) by unfold avR; rw [if_neg (fun q => h q.1)])
    go_enter Try.func73, Try.ntmps73
    go_wp2_with (go_at_call 178; refine (within_no _ _ _ _ h).mono ?_; rintro e w' ⟨rfl, rfl⟩)
    go_ret2
    exact retA_no HV.out
end Go.Proofs.Ytnkkgfeegaiakaa
