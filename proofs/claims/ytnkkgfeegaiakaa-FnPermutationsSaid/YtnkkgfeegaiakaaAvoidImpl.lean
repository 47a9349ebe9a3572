/- Contract of the program's Avoiders: a function that calls itself and puts rows into a captured slice. No condition but the pattern's size. -/
import Derived.Test.YtnkkgfeegaiakaaAvoid
import Derived.Test.YtnkkgfeegaiakaaPartTurn
namespace Go.Proofs.Ytnkkgfeegaiakaa
open Go.RowKit
/-- four captured variables: the size, the pattern, the slice of rows, the function itself -/
structure BoxA (w : World) (base rb bn bp bo bm : Nat) (tm : TypeId) (F v : Value) (n : Nat) (pat : ByteArray) (Ps : List (Value × List Int)) : Prop where
  cn : w.heap[bn]? = some (.cells #[.int .i64 (n : Int)] 3 (0, 0))
  cp : w.heap[bp]? = some (.cells #[.string pat] 9 (0, 0))
  co : w.heap[bo]? = some (.cells #[v] 22 (0, 0))
  cm : w.heap[bm]? = some (.cells #[F] tm (0, 0))
  sp : Spine w base v Ps
  rows : RowsOk w rb Ps
  no : ∀ x, (x = bn ∨ x = bp ∨ x = bo ∨ x = bm) → v.ownBlock ≠ some x
  lo : bn < rb ∧ bp < rb ∧ bo < rb ∧ bm < rb
  ne : bn ≠ bo ∧ bp ≠ bo ∧ bm ≠ bo
/-- what the call leaves alone: all old blocks but the variable's and the slice's -/
structure KeptA (w w' : World) (bo : Nat) (v : Value) : Prop where
  os : w'.os = w.os
  tape : w'.tape = w.tape
  output : w'.output = w.output
  size : w.heap.size ≤ w'.heap.size
  block : ∀ k, k < w.heap.size → k ≠ bo → v.ownBlock ≠ some k → w'.heap[k]? = w.heap[k]?
theorem KeptA.refl_ (w : World) (bo : Nat) (v : Value) : KeptA w w bo v := ⟨rfl, rfl, rfl, Nat.le_refl _, fun _ _ _ _ => rfl⟩
theorem KeptA.of_below {w w' : World} (h : Below w.heap.size w w') (bo : Nat) (v : Value) : KeptA w w' bo v := ⟨h.os, h.tape, h.output, h.size, fun k hk _ _ => h.block k hk⟩
def OldNew (w : World) (v v' : Value) : Prop := v'.ownBlock = v.ownBlock ∨ ∀ g, v'.ownBlock = some g → w.heap.size ≤ g
theorem KeptA.trans_ {a b c : World} {bo : Nat} {v v1 : Value} (h : KeptA a b bo v) (k : KeptA b c bo v1) (hv : OldNew a v v1) : KeptA a c bo v :=
  ⟨k.os.trans h.os, k.tape.trans h.tape, k.output.trans h.output, Nat.le_trans h.size k.size, fun i hi hne hno =>
    (k.block i (Nat.lt_of_lt_of_le hi h.size) hne (fun e => by
      rcases hv with e1 | e1
      · exact hno (e1 ▸ e)
      · have := e1 i e; omega)).trans (h.block i hi hne hno)⟩
theorem OldNew.trans_ {a b : World} {v v1 v2 : Value} (h : OldNew a v v1) (k : OldNew b v1 v2) (hs : a.heap.size ≤ b.heap.size) : OldNew a v v2 := by
  rcases k with k | k
  · rcases h with h | h
    · exact .inl (k.trans h)
    · exact .inr fun g hg => h g (k ▸ hg)
  · exact .inr fun g hg => Nat.le_trans hs (k g hg)
theorem OwI.keptA {w w' : World} {b bo : Nat} {u v : Value} {xs : List Int} (h : OwI w b u xs) (k : KeptA w w' bo v) (h1 : u.ownBlock ≠ some bo) (h2 : Apart u v) : OwI w' b u xs :=
  ⟨ownsRow_of_block h.1 fun g hg => k.block g (h.lt g hg).2 (fun e => h1 (e ▸ hg)) (h2 g hg), h.2⟩
section
variable {w w' w1 : World} {base rb bn bp bo bm : Nat} {tm : TypeId} {F v v' : Value} {n : Nat} {pat : ByteArray} {Ps : List (Value × List Int)}
theorem BoxA.below (h : BoxA w base rb bn bp bo bm tm F v n pat Ps) (hb : Below w.heap.size w w') : BoxA w' base rb bn bp bo bm tm F v n pat Ps :=
  ⟨(hb.block _ (lt_of_block h.cn)).trans h.cn, (hb.block _ (lt_of_block h.cp)).trans h.cp, (hb.block _ (lt_of_block h.co)).trans h.co, (hb.block _ (lt_of_block h.cm)).trans h.cm, h.sp.below hb, h.rows.below hb, h.no, h.lo, h.ne⟩
theorem BoxA.push (h : BoxA w base rb bn bp bo bm tm F v n pat Ps) {pv : Value} {p : List Int} {b m : Nat} (hp : OwI w b pv p) (hb : rb ≤ b) (hap : ∀ q ∈ Ps, Apart q.1 pv)
    (ho : Spine w1 base v' (Ps ++ [(pv, p)])) (hg : w.grownBy w1 v.ownBlock) (hat : AppAt w v v' m) :
    w1.cell? ⟨bo, 0, none⟩ = some v ∧ w1.frozen? ⟨bo, 0, none⟩ = false ∧ BoxA (w1.setCell ⟨bo, 0, none⟩ v') base rb bn bp bo bm tm F v' n pat (Ps ++ [(pv, p)]) ∧ KeptA w (w1.setCell ⟨bo, 0, none⟩ v') bo v ∧ OldNew w v v' := by
  have ln := lt_of_block h.cn
  have lp := lt_of_block h.cp
  have lo := lt_of_block h.co
  have lm := lt_of_block h.cm
  have c1 : w1.heap[bo]? = _ := (hg.block bo lo (fun e => h.no bo (by simp) e.symm)).trans h.co
  have n1 : w1.heap[bn]? = _ := (hg.block bn ln (fun e => h.no bn (by simp) e.symm)).trans h.cn
  have p1 : w1.heap[bp]? = _ := (hg.block bp lp (fun e => h.no bp (by simp) e.symm)).trans h.cp
  have m1 : w1.heap[bm]? = _ := (hg.block bm lm (fun e => h.no bm (by simp) e.symm)).trans h.cm
  have hold : OldNew w v v' := by
    rcases hat.1 with e | e
    · exact .inl e
    · exact .inr fun g hg' => by rw [e] at hg'; injection hg' with hg'; omega
  have hno : ∀ x, (x = bn ∨ x = bp ∨ x = bo ∨ x = bm) → v'.ownBlock ≠ some x := fun x hx e => by
    rcases hold with e1 | e1
    · exact h.no x hx (e1 ▸ e)
    · have := e1 x e
      rcases hx with rfl | rfl | rfl | rfl <;> omega
  have hrows : RowsOk w rb (Ps ++ [(pv, p)]) := h.rows.append_ (RowsOk.one_ (hp.mono hb)) (fun a ha q hq => by
    obtain rfl : q = (pv, p) := by simpa using hq
    exact hap a ha)
  have hr1 := hrows.spine h.sp hg
  refine ⟨cell_of_one c1, free_of_one c1, ⟨?_, ?_, one_setCell c1, ?_, ⟨ownsRow_setCell_other ho.1 (hno bo (by simp)) v', ho.2⟩, hr1.box (fun q hq e => ?_) v', hno, h.lo, h.ne⟩, ⟨hg.os, hg.tape, hg.output, by simpa using hg.size, fun k hk hne hno' => ?_⟩, hold⟩
  · rw [Below.heap_setCell _ _ _ _ h.ne.1]; exact n1
  · rw [Below.heap_setCell _ _ _ _ h.ne.2.1]; exact p1
  · rw [Below.heap_setCell _ _ _ _ h.ne.2.2]; exact m1
  · have := ((hr1.1 q hq).lt bo e).1
    have := h.lo.2.2.1
    omega
  · rw [Below.heap_setCell _ _ _ _ hne]
    exact hg.block k hk (fun e => hno' e.symm)
end
def FromB (b : Nat) (Qs : List (Value × List Int)) : Prop := ∀ q ∈ Qs, ∀ g, q.1.ownBlock = some g → b ≤ g
/-- what the closure leaves -/
def RetA (w : World) (base rb bn bp bo bm : Nat) (tm : TypeId) (F v : Value) (n : Nat) (pat : ByteArray) (Ps : List (Value × List Int)) (b : Nat) (R : List (List Int)) (e : Ending) (w' : World) : Prop :=
  e = .returned (.tuple #[]) ∧ ∃ v' Qs, BoxA w' base rb bn bp bo bm tm F v' n pat (Ps ++ Qs) ∧ Qs.map (·.2) = R ∧ FromB b Qs ∧ KeptA w w' bo v ∧ OldNew w v v'
/-- the closure's value -/
def avoF (bn bp bo bm : Nat) : Value := .func (.func 200) #[] #[.pointer (some ⟨bn, 0, none⟩), .pointer (some ⟨bp, 0, none⟩), .pointer (some ⟨bo, 0, none⟩), .pointer (some ⟨bm, 0, none⟩)]
set_option maxHeartbeats 1600000 in
theorem leafA231_any (tm : TypeId) (base rb bn bp bo bm n : Nat) (pat : ByteArray) (hpat : pat.toList = [50, 51, 49]) (p : List Int) (w : World) (b : Nat) (pv v : Value) (Ps : List (Value × List Int))
    (hn : p.length = n) (hp : OwI w b pv p) (hb : rb ≤ b) (hap : ∀ q ∈ Ps, Apart q.1 pv) (hbox : BoxA w base rb bn bp bo bm tm (avoF bn bp bo bm) v n pat Ps) (hbs : base ≤ w.heap.size) (hlen : Ps.length < 100000) :
    Calls Try.prog 200 #[pv, .pointer (some ⟨bn, 0, none⟩), .pointer (some ⟨bp, 0, none⟩), .pointer (some ⟨bo, 0, none⟩), .pointer (some ⟨bm, 0, none⟩)] w
      (RetA w base rb bn bp bo bm tm (avoF bn bp bo bm) v n pat Ps b ([p].filter (avo pat.toList))) := by
  have fa : (pat.toList == [50, 51, 49]) = true := beq_iff_eq.2 hpat
  have fc : (pat.toList == [51, 50, 49]) = false := by rw [hpat]; rfl
  have HAV := Lib.hid (show avo pat.toList p = !decide (TripR R231 p) by unfold avo; rw [hpat]; rfl)
  clear hpat
  have f1 : ((p.length : Int) == (n : Int)) = true := beq_iff_eq.2 (by omega)
  have cn := cell_of_one hbox.cn
  have cp := cell_of_one hbox.cp
  have HP := Lib.hid hp
  have HB := Lib.hid hbox
  have hc := implContains231_any pv p w hp.rd
  obtain ⟨pA, pc, rfl, _⟩ := id hp.rd
  clear hp hbox hn
  by_cases hT : TripR R231 p
  · rw [decide_eq_true hT] at hc
    have HN := Lib.hid (show [p].filter (avo pat.toList) = [] by rw [List.filter_cons_of_neg (by rw [HAV.out, decide_eq_true hT]; simp)]; rfl)
    have HC := Lib.hid hc
    clear hT hc
    go_enter Try.func200, Try.ntmps200
    go_wp2_with (go_at_call 64; refine HC.out.mono ?_; rintro e w2 ⟨rfl, b2⟩; have cp2 := cell_of_one (HB.out.below b2).cp)
    refine bodyPost_ret (results_none rfl _ _ _) rfl ?_
    exact ⟨rfl, v, [], by rw [List.append_nil]; exact HB.out.below b2, by rw [HN.out]; rfl, (fun q hq => by cases hq), KeptA.of_below b2 _ _, .inl rfl⟩
  · rw [decide_eq_false hT] at hc
    have HN := Lib.hid (show [p].filter (avo pat.toList) = [p] by rw [List.filter_cons_of_pos (by rw [HAV.out, decide_eq_false hT]; rfl)]; rfl)
    have HC := Lib.hid hc
    have hlen2 : Ps.length < 1099511627776 := by omega
    clear hT hc
    go_enter Try.func200, Try.ntmps200
    go_wp2_with (first
      | (go_at_call 64; refine HC.out.mono ?_; rintro e w2 ⟨rfl, b2⟩; have cp2 := cell_of_one (HB.out.below b2).cp; have co2 := cell_of_one (HB.out.below b2).co)
      | (at_builtin; refine wpList_appSp _ rfl _ _ rfl base _ Ps rfl (HB.out.below b2).sp (.slice pA p.length pc, p) rfl rfl rfl hlen2 (Nat.le_trans hbs b2.size) ?_))
    intro v3 w3 s3 g3 a3
    obtain ⟨d1, d2, hbox3, hk3, hon3⟩ := (HB.out.below b2).push (HP.out.below b2) hb hap s3 g3 a3
    have HB3 := Lib.hid hbox3
    have HK3 := Lib.hid ((KeptA.of_below b2 bo v).trans_ hk3 (.inl rfl))
    have HON := Lib.hid (show OldNew w v v3 from OldNew.trans_ (a := w) (b := w2) (.inl rfl) hon3 b2.size)
    obtain ⟨_, g, cap, rfl⟩ := a3
    clear hbox3 hk3 hon3 s3 g3 co2 cp2
    go_wp2_with fail
    refine bodyPost_ret (results_none rfl _ _ _) rfl ?_
    exact ⟨rfl, _, [(.slice pA p.length pc, p)], HB3.out, by rw [HN.out]; rfl, (fun q hq g hg => by
      obtain rfl : q = (.slice pA p.length pc, p) := by simpa using hq
      exact (HP.out.lt g hg).1), HK3.out, HON.out⟩
set_option maxHeartbeats 1600000 in
theorem leafA321_any (tm : TypeId) (base rb bn bp bo bm n : Nat) (pat : ByteArray) (hpat : pat.toList = [51, 50, 49]) (p : List Int) (w : World) (b : Nat) (pv v : Value) (Ps : List (Value × List Int))
    (hn : p.length = n) (hp : OwI w b pv p) (hb : rb ≤ b) (hap : ∀ q ∈ Ps, Apart q.1 pv) (hbox : BoxA w base rb bn bp bo bm tm (avoF bn bp bo bm) v n pat Ps) (hbs : base ≤ w.heap.size) (hlen : Ps.length < 100000) :
    Calls Try.prog 200 #[pv, .pointer (some ⟨bn, 0, none⟩), .pointer (some ⟨bp, 0, none⟩), .pointer (some ⟨bo, 0, none⟩), .pointer (some ⟨bm, 0, none⟩)] w
      (RetA w base rb bn bp bo bm tm (avoF bn bp bo bm) v n pat Ps b ([p].filter (avo pat.toList))) := by
  have fa : (pat.toList == [51, 50, 49]) = true := beq_iff_eq.2 hpat
  have fc : (pat.toList == [50, 51, 49]) = false := by rw [hpat]; rfl
  have HAV := Lib.hid (show avo pat.toList p = !decide (TripR R321 p) by unfold avo; rw [hpat]; rfl)
  clear hpat
  have f1 : ((p.length : Int) == (n : Int)) = true := beq_iff_eq.2 (by omega)
  have cn := cell_of_one hbox.cn
  have cp := cell_of_one hbox.cp
  have HP := Lib.hid hp
  have HB := Lib.hid hbox
  have hc := implContains321_any pv p w hp.rd
  obtain ⟨pA, pc, rfl, _⟩ := id hp.rd
  clear hp hbox hn
  by_cases hT : TripR R321 p
  · rw [decide_eq_true hT] at hc
    have HN := Lib.hid (show [p].filter (avo pat.toList) = [] by rw [List.filter_cons_of_neg (by rw [HAV.out, decide_eq_true hT]; simp)]; rfl)
    have HC := Lib.hid hc
    clear hT hc
    go_enter Try.func200, Try.ntmps200
    go_wp2_with (go_at_call 69; refine HC.out.mono ?_; rintro e w2 ⟨rfl, b2⟩; have cp2 := cell_of_one (HB.out.below b2).cp)
    refine bodyPost_ret (results_none rfl _ _ _) rfl ?_
    exact ⟨rfl, v, [], by rw [List.append_nil]; exact HB.out.below b2, by rw [HN.out]; rfl, (fun q hq => by cases hq), KeptA.of_below b2 _ _, .inl rfl⟩
  · rw [decide_eq_false hT] at hc
    have HN := Lib.hid (show [p].filter (avo pat.toList) = [p] by rw [List.filter_cons_of_pos (by rw [HAV.out, decide_eq_false hT]; rfl)]; rfl)
    have HC := Lib.hid hc
    have hlen2 : Ps.length < 1099511627776 := by omega
    clear hT hc
    go_enter Try.func200, Try.ntmps200
    go_wp2_with (first
      | (go_at_call 69; refine HC.out.mono ?_; rintro e w2 ⟨rfl, b2⟩; have cp2 := cell_of_one (HB.out.below b2).cp; have co2 := cell_of_one (HB.out.below b2).co)
      | (at_builtin; refine wpList_appSp _ rfl _ _ rfl base _ Ps rfl (HB.out.below b2).sp (.slice pA p.length pc, p) rfl rfl rfl hlen2 (Nat.le_trans hbs b2.size) ?_))
    intro v3 w3 s3 g3 a3
    obtain ⟨d1, d2, hbox3, hk3, hon3⟩ := (HB.out.below b2).push (HP.out.below b2) hb hap s3 g3 a3
    have HB3 := Lib.hid hbox3
    have HK3 := Lib.hid ((KeptA.of_below b2 bo v).trans_ hk3 (.inl rfl))
    have HON := Lib.hid (show OldNew w v v3 from OldNew.trans_ (a := w) (b := w2) (.inl rfl) hon3 b2.size)
    obtain ⟨_, g, cap, rfl⟩ := a3
    clear hbox3 hk3 hon3 s3 g3 co2 cp2
    go_wp2_with fail
    refine bodyPost_ret (results_none rfl _ _ _) rfl ?_
    exact ⟨rfl, _, [(.slice pA p.length pc, p)], HB3.out, by rw [HN.out]; rfl, (fun q hq g hg => by
      obtain rfl : q = (.slice pA p.length pc, p) := by simpa using hq
      exact (HP.out.lt g hg).1), HK3.out, HON.out⟩
set_option maxRecDepth 8000 in
set_option maxHeartbeats 3200000 in
theorem moreA_any (tm : TypeId) (base rb bn bp bo bm n : Nat) (hn5 : n ≤ 5) (pat : ByteArray) (hpat : pat.toList = [50, 51, 49] ∨ pat.toList = [51, 50, 49]) : ∀ (f : Nat) (p : List Int) (w : World) (b : Nat) (pv v : Value) (Ps : List (Value × List Int)),
    p.length + f = n → OwI w b pv p → rb ≤ b → b ≤ w.heap.size → (∀ q ∈ Ps, Apart q.1 pv) → BoxA w base rb bn bp bo bm tm (avoF bn bp bo bm) v n pat Ps → base ≤ w.heap.size → Ps.length + 5 ^ f < 100000 →
    Calls Try.prog 200 #[pv, .pointer (some ⟨bn, 0, none⟩), .pointer (some ⟨bp, 0, none⟩), .pointer (some ⟨bo, 0, none⟩), .pointer (some ⟨bm, 0, none⟩)] w
      (RetA w base rb bn bp bo bm tm (avoF bn bp bo bm) v n pat Ps b ((extL n f p).filter (avo pat.toList))) := by
  intro f
  induction f with
  | zero =>
    intro p w b pv v Ps hf hp hb hbw hap hbox hbs hlen
    rcases hpat with h | h
    · exact leafA231_any tm base rb bn bp bo bm n pat h p w b pv v Ps (by omega) hp hb hap hbox hbs (by omega)
    · exact leafA321_any tm base rb bn bp bo bm n pat h p w b pv v Ps (by omega) hp hb hap hbox hbs (by omega)
  | succ f ih =>
    intro p w b pv v Ps hf hp hb hbw hap hbox hbs hlen
    have f1 : ((p.length : Int) == (n : Int)) = false := beq_eq_false_iff_ne.2 (by omega)
    have hf5 : f ≤ 5 := by omega
    have hpl : p.length ≤ 5 := by omega
    have HF := Lib.hid hf
    have HLEN := Lib.hid hlen
    have HPB := Lib.hid (show ∀ g, pv.ownBlock = some g → rb ≤ g from fun g hg => by have := (hp.lt g hg).1; omega)
    have HAPS := Lib.hid (show Apart pv v from OwR.apart_of_type (e := 3) (e' := 38) hp hbox.sp (by decide))
    have HNB := Lib.hid (show pv.ownBlock ≠ some bo from fun e => by have := (hp.lt bo e).1; have := hbox.lo.2.2.1; omega)
    have HP := Lib.hid hp
    have HIH := Lib.hid ih
    have cn := cell_of_one hbox.cn
    have HB := Lib.hid hbox
    obtain ⟨pA, pc, rfl, _⟩ := id hp.rd
    clear hf hp hap hbox hpat hlen ih
    go_enter Try.func200, Try.ntmps200
    go_wp2_with fail
    go_loopw [6] (fun x wr => ∃ (k : Nat) (v1 : Value) (Qs : List (Value × List Int)), k ≤ n ∧ x = .int .i64 (k : Int) ∧ Hid (BoxA wr base rb bn bp bo bm tm (avoF bn bp bo bm) v1 n pat (Ps ++ Qs)) ∧ Hid (Qs.map (·.2) = (exK n f p k).filter (avo pat.toList)) ∧ Hid (FromB w.heap.size Qs) ∧ Hid (KeptA w wr bo v) ∧ Hid (OldNew w v v1)) (fun x _ => n - (intOf x).toNat)
    case atStart => exact ⟨0, v, [], by omega, rfl, by rw [List.append_nil]; exact HB, rfl, (fun q hq => by cases hq), Lib.hid (KeptA.refl_ _ _ _), Lib.hid (.inl rfl)⟩
    case round =>
      clear cn HB
      obtain ⟨k, v1, Qs, hk, rfl, HB, HE, HFB, HK, HON⟩ := hrel
      have cn := cell_of_one HB.out.cn
      have hszw : w.heap.size ≤ wr.heap.size := HK.out.size
      by_cases hlt : k < n
      · have hki : (k : Int) < (n : Int) := by omega
        have HPR := Lib.hid (OwI.keptA HP.out HK.out HNB.out HAPS.out)
        go_wp2_with fail
        go_loop [7, 41] (fun u i => ∃ j : Nat, j ≤ p.length ∧ i = .int .i64 (j : Int) ∧ u = .bool (decide ((k : Int) ∈ p.take j))) (fun _ i => p.length - (intOf i).toNat)
        case atStart => exact ⟨0, by omega, rfl, by simp only [List.take_zero, List.not_mem_nil, decide_false]⟩
        case round =>
          clear cn
          obtain ⟨j, hj, rfl, rfl⟩ := hrel
          by_cases hjl : j < p.length
          · have HM := Lib.hid (mem_take_succ_iff hjl (k : Int))
            obtain ⟨b0, o0, rfl, hb0, hcl⟩ := HPR.out.rd.at_ (by omega)
            have c1 := hcl j hjl
            generalize p[j] = y at c1 HM
            have HC := Lib.hid (show ((k : Int) == y) = decide ((k : Int) = y) by
              by_cases h : (k : Int) = y
              · subst h; simp
              · rw [beq_eq_false_iff_ne.2 h, decide_eq_false h])
            generalize hd : decide ((k : Int) ∈ p.take j) = d at HM ⊢
            clear hcl hd
            rcases d with _ | _
            · go_wp2_with fail
              go_round
              case rel => exact ⟨j + 1, by omega, by go_num, by rw [HM.out, HC.out, Bool.false_or]⟩
              case measure => simp [intOf]; omega
            · go_wp2_with fail
              go_round
              case rel => exact ⟨j + 1, by omega, by go_num, by rw [HM.out, Bool.true_or]⟩
              case measure => simp [intOf]; omega
          · have hje : j = p.length := by omega
            subst hje
            rw [List.take_length]
            have HX := Lib.hid (exK_succ n f p k)
            by_cases hm : (k : Int) ∈ p
            · rw [decide_eq_true hm]
              have HN := Lib.hid (show Qs.map (·.2) = (exK n f p (k + 1)).filter (avo pat.toList) by rw [HX.out, if_pos hm, List.append_nil]; exact HE.out)
              clear hm hj hjl
              go_wp2_with fail
              go_roundw
              case rel => exact ⟨k + 1, v1, Qs, by omega, by go_num, HB, HN, HFB, HK, HON⟩
              case measure => simp [intOf]; omega
            · rw [decide_eq_false hm]
              have HN := Lib.hid (show (exK n f p (k + 1)).filter (avo pat.toList) = (exK n f p k).filter (avo pat.toList) ++ (extL n f (p ++ [(k : Int)])).filter (avo pat.toList) by rw [HX.out, if_neg hm, List.filter_append])
              clear hm hj hjl HX
              have hrd : RdI wr.drew (.slice pA p.length pc) p := HPR.out.rd
              have cm := cell_of_one HB.out.cm
              unfold avoF at cm
              have hQl : Qs.length ≤ k * 5 ^ f := by
                have h1 := congrArg List.length HE.out
                rw [List.length_map] at h1
                have h2 := List.length_filter_le (avo pat.toList) (exK n f p k)
                have h3 := exK_le hn5 f p k
                omega
              have HLN := Lib.hid (show (Ps ++ Qs).length + 5 ^ f < 100000 by
                have h0 := HLEN.out
                have e1 : 5 ^ (f + 1) = 5 * 5 ^ f := by rw [Nat.pow_succ, Nat.mul_comm]
                have e2 : (k + 1) * 5 ^ f ≤ 5 * 5 ^ f := Nat.mul_le_mul_right _ (by omega)
                have e3 : (k + 1) * 5 ^ f = k * 5 ^ f + 5 ^ f := Nat.succ_mul _ _
                rw [List.length_append]; omega)
              clear hQl
              have bl : Below wr.heap.size wr (wr.alloc (.cells #[.int .i64 (k : Int)] 3)).drew := ((Below.refl _ _).alloc (Nat.le_refl _) _).drew
              have hrd2 : RdI (wr.alloc (.cells #[.int .i64 (k : Int)] 3)).drew (.slice pA p.length pc) p := HPR.out.rd.below bl
              have cl : (wr.alloc (.cells #[.int .i64 (k : Int)] 3)).drew.cell? ⟨wr.heap.size, 0, none⟩ = some (.int .i64 (k : Int)) := cell_of_one (heap_alloc_new wr (.cells #[.int .i64 (k : Int)] 3))
              have hll : wr.heap.size < (wr.alloc (.cells #[.int .i64 (k : Int)] 3)).drew.heap.size := lt_of_block (heap_alloc_new wr (.cells #[.int .i64 (k : Int)] 3))
              have cml := cell_of_one (HB.out.below bl).cm
              unfold avoF at cml
              have HCL := Lib.hid cl
              have HLL := Lib.hid hll
              have HBL := Lib.hid bl
              clear cl hll bl
              go_wp2_with fail
              go_region_law (first
                | (go_simp
                   go_at_call 201
                   refine (copyInts_any _ _ _ hrd2).mono ?_
                   rintro e wb ⟨r, rfl, ob, bb⟩
                   have clb := (bb.cell (p := ⟨wr.heap.size, 0, none⟩) HLL.out).trans HCL.out
                   have bb := below_then HBL.out bb
                   have ob := ob.mono HBL.out.size
                   obtain ⟨rA, rc, rfl, _⟩ := id ob.rd
                   have cmb := cell_of_one (HB.out.below bb).cm
                   unfold avoF at cmb
                   have hlrb : p.length + 1 ≤ 1099511627776 := by omega
                   have hsb := bb.size)
                | (go_simp
                   go_at_call 201
                   refine (copyInts_any _ _ _ hrd).mono ?_
                   rintro e w2 ⟨r, rfl, o2, b2⟩
                   have b2 : Below wr.heap.size wr w2 := ⟨b2.os, b2.tape, b2.output, b2.size, b2.block⟩
                   have o2 : OwI w2 wr.heap.size r p := o2
                   obtain ⟨rA, rc, rfl, _⟩ := id o2.rd
                   have cm2 := cell_of_one (HB.out.below b2).cm
                   unfold avoF at cm2
                   have hlm2 := lt_of_block (HB.out.below b2).cm
                   have hlr : p.length < 1099511627776 := by omega
                   have hs2 := b2.size)
                | (refine step_appI w2 rfl (.tmp 56) (.tmp 58) rfl wr.heap.size (.slice rA p.length rc) p (by simp [Act.eval, Act.put]) o2 (k : Int) (by simp [Act.eval, Act.put]) rfl hlr hs2 ?_
                   intro v3 w3 o3 g3 a3
                   have b3 := below_of_own b2 g3 hs2 (fun g hg => (o2.lt g hg).1)
                   have cm3 := cell_of_one (HB.out.below b3).cm
                   unfold avoF at cm3)
                | (refine step_appN wb rfl (.tmp 56) (.tmp 58) rfl wr.heap.size (.slice rA p.length rc) p [(k : Int)] (by simp [Act.eval, Act.put]) ob wr.heap.size 0 1 1 (by simp [Act.eval, Act.put]) rfl (fun j hj => by
                     obtain rfl : j = 0 := by simpa using hj
                     exact clb) hlrb hsb ?_
                   intro v3 w3 o3 g3
                   have b3 := below_of_own bb g3 hsb (fun g hg => (ob.lt g hg).1)
                   have cm3 := cell_of_one (HB.out.below b3).cm
                   unfold avoF at cm3)
                | (go_simp
                   go_at_call 200
                   have q1 : (p ++ [(k : Int)]).length + f = n := by rw [List.length_append, List.length_singleton]; have := HF.out; omega
                   have q2 : rb ≤ wr.heap.size := by omega
                   have q3 : ∀ q ∈ Ps ++ Qs, Apart q.1 v3 := fun q hq g h1 h2 => by
                     have := ((HB.out.rows.1 q hq).lt g h1).2
                     have := (o3.lt g h2).1
                     omega
                   have q4 : base ≤ w3.heap.size := by have := b3.size; omega
                   have q5 := HIH.out (p ++ [(k : Int)]) w3 wr.heap.size v3 v1 (Ps ++ Qs) q1 o3 q2 b3.size q3 (HB.out.below b3) q4 HLN.out
                   refine q5.mono ?_
                   rintro e w4 ⟨rfl, v4, Qs4, hb4, he4, hf4, hk4, ho4⟩))
              all_goals (
                have HB4 := Lib.hid (show BoxA w4 base rb bn bp bo bm tm (avoF bn bp bo bm) v4 n pat (Ps ++ (Qs ++ Qs4)) by rw [← List.append_assoc]; exact hb4)
                have HE4 := Lib.hid (show (Qs ++ Qs4).map (·.2) = (exK n f p (k + 1)).filter (avo pat.toList) by rw [List.map_append, HE.out, he4, HN.out])
                have HF4 := Lib.hid (show FromB w.heap.size (Qs ++ Qs4) from fun q hq g hg => by
                  rcases List.mem_append.1 hq with hq | hq
                  · exact HFB.out q hq g hg
                  · have := hf4 q hq g hg; omega)
                have HK4 := Lib.hid (HK.out.trans_ ((KeptA.of_below b3 bo v1).trans_ hk4 (.inl rfl)) HON.out)
                have HO4 := Lib.hid (HON.out.trans_ ho4 (Nat.le_trans hszw b3.size))
                clear hb4 he4 hf4 hk4 ho4 hrd hrd2 cm cml cm3 o3 g3 b3
                go_wp2_with fail
                go_roundw
                case rel => exact ⟨k + 1, v4, Qs ++ Qs4, by omega, by go_num, HB4, HE4, HF4, HK4, HO4⟩
                case measure => simp [intOf]; omega)
      · have hke : k = n := by omega
        subst hke
        go_wp2_with fail
        go_end0
        exact ⟨rfl, v1, Qs, HB.out, HE.out, (fun q hq g hg => Nat.le_trans hbw (HFB.out q hq g hg)), HK.out, HON.out⟩
end Go.Proofs.Ytnkkgfeegaiakaa
