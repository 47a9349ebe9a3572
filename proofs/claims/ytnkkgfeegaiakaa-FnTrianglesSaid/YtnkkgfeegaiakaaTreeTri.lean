/- Contract of (*tree).triangles: the triangles and the diagonals of a tree go to the ends of two slices. Condition: a tree by pointers, two slices of rows that the call owns. -/
import Derived.Test.YtnkkgfeegaiakaaTreeNodes
import Derived.Test.YtnkkgfeegaiakaaRowsOk
namespace Go.Proofs.Ytnkkgfeegaiakaa
open Go.RowKit
structure T2 (w : World) (base : Nat) (cv sv : Value) (Cs Ss : List (Value × List Int)) : Prop where
  c : Spine w base cv Cs
  cr : RowsOk w base Cs
  s : Spine w base sv Ss
  sr : RowsOk w base Ss
  ap : Apart cv sv
/-- all old blocks kept but two -/
structure Kp (w w' : World) (cv sv : Value) : Prop where
  os : w'.os = w.os
  tape : w'.tape = w.tape
  output : w'.output = w.output
  size : w.heap.size ≤ w'.heap.size
  block : ∀ k, k < w.heap.size → cv.ownBlock ≠ some k → sv.ownBlock ≠ some k → w'.heap[k]? = w.heap[k]?
def ON (w : World) (v v' : Value) : Prop := v'.ownBlock = v.ownBlock ∨ ∃ g, v'.ownBlock = some g ∧ w.heap.size ≤ g
theorem ON.refl (w : World) (v : Value) : ON w v v := .inl rfl
theorem ON.trans {w w1 : World} {v v1 v2 : Value} (h : ON w v v1) (k : ON w1 v1 v2) (hs : w.heap.size ≤ w1.heap.size) : ON w v v2 := by
  rcases k with k | k
  · rcases h with h | h
    · exact .inl (k.trans h)
    · obtain ⟨g, h1, h2⟩ := h
      exact .inr ⟨g, k.trans h1, h2⟩
  · obtain ⟨g, h1, h2⟩ := k
    exact .inr ⟨g, h1, Nat.le_trans hs h2⟩
theorem ON.ne {w : World} {v v' : Value} (h : ON w v v') {k : Nat} (hk : k < w.heap.size) (hv : v.ownBlock ≠ some k) : v'.ownBlock ≠ some k := by
  intro e
  rcases h with h | h
  · exact hv (h ▸ e)
  · obtain ⟨g, h1, h2⟩ := h
    rw [e] at h1; injection h1 with h1; omega
theorem Kp.of_below {w w' : World} (cv sv : Value) (h : Below w.heap.size w w') : Kp w w' cv sv := ⟨h.os, h.tape, h.output, h.size, fun k hk _ _ => h.block k hk⟩
theorem Kp.trans {w w1 w2 : World} {cv sv cv1 sv1 : Value} (h : Kp w w1 cv sv) (k : Kp w1 w2 cv1 sv1) (hc : ON w cv cv1) (hs : ON w sv sv1) : Kp w w2 cv sv :=
  ⟨k.os.trans h.os, k.tape.trans h.tape, k.output.trans h.output, Nat.le_trans h.size k.size, fun i hi h1 h2 => (k.block i (Nat.lt_of_lt_of_le hi h.size) (hc.ne hi h1) (hs.ne hi h2)).trans (h.block i hi h1 h2)⟩
theorem Kp.swap {w w' : World} {cv sv : Value} (h : Kp w w' cv sv) : Kp w w' sv cv := ⟨h.os, h.tape, h.output, h.size, fun k hk h1 h2 => h.block k hk h2 h1⟩
theorem T2.swap {w : World} {base : Nat} {cv sv : Value} {Cs Ss : List (Value × List Int)} (h : T2 w base cv sv Cs Ss) : T2 w base sv cv Ss Cs := ⟨h.s, h.sr, h.c, h.cr, h.ap.symm⟩
theorem T2.below {w w' : World} {base : Nat} {cv sv : Value} {Cs Ss : List (Value × List Int)} (h : T2 w base cv sv Cs Ss) (hb : Below w.heap.size w w') : T2 w' base cv sv Cs Ss := ⟨h.c.below hb, h.cr.below hb, h.s.below hb, h.sr.below hb, h.ap⟩
theorem Spine.no_tree {w : World} {base g : Nat} {v : Value} {Cs : List (Value × List Int)} {cs : Array Value} (h : Spine w base v Cs) (hg : w.heap[g]? = some (.cells cs 116 (0, 0))) : v.ownBlock ≠ some g := by
  intro e
  rcases h.1.2 with ⟨rfl, _⟩ | ⟨g1, cap, cur, rfl, _, hh, _⟩
  · cases e
  · simp only [Value.ownBlock, Option.some.injEq] at e
    have e1 : g1 = g := e
    subst e1
    rw [hh] at hg
    injection hg with hg
    injection hg with _ h3
    exact absurd h3 (by decide)
theorem TreeAt.kp {w w' : World} {base : Nat} {cv sv : Value} {Cs Ss : List (Value × List Int)} (h : T2 w base cv sv Cs Ss) (hk : Kp w w' cv sv) : ∀ (T : Tr) {v : Value}, TreeAt w v T → TreeAt w' v T := by
  intro T
  induction T with
  | lf => intro v h; exact h
  | nd a b iha ihb =>
    rintro v ⟨g, va, vb, h1, h2, h3, h4⟩
    exact ⟨g, va, vb, h1, (hk.block g (lt_block h2) (h.c.no_tree h2) (h.s.no_tree h2)).trans h2, iha h3, ihb h4⟩
/-- one row more in the first slice -/
theorem T2.addC {w wa w' : World} {base n : Nat} {cv sv v' : Value} {Cs Ss : List (Value × List Int)} {row : List Int} (h : T2 w base cv sv Cs Ss) (hB : Below w.heap.size w wa) (hrow : OwI wa base (.slice (some ⟨w.heap.size, 0, none⟩) n n) row)
    (h1 : Spine w' base v' (Cs ++ [(.slice (some ⟨w.heap.size, 0, none⟩) n n, row)])) (h2 : wa.grownBy w' cv.ownBlock) (h3 : AppAt wa cv v' (Cs.length + 1)) :
    T2 w' base v' sv (Cs ++ [(.slice (some ⟨w.heap.size, 0, none⟩) n n, row)]) Ss ∧ Kp w w' cv sv ∧ ON w cv v' := by
  have ha := h.below hB
  obtain ⟨s1, s2⟩ := OwR.after_app ha.s ha.ap h2 h3
  refine ⟨⟨h1, (ha.cr.spine ha.c h2).append_ ((RowsOk.one_ hrow).spine ha.c h2) (fun a ham b hb => ?_), s1, ha.sr.spine ha.c h2, s2⟩, ⟨h2.os.trans hB.os, h2.tape.trans hB.tape, h2.output.trans hB.output, Nat.le_trans hB.size h2.size, fun k hk q1 _ => (h2.block k (Nat.lt_of_lt_of_le hk hB.size) q1.symm).trans (hB.block k hk)⟩, ?_⟩
  · rw [List.mem_singleton] at hb
    subst hb
    intro g e1 e2
    have e3 : w.heap.size = g := Option.some.inj e2
    have := ((h.cr.1 a ham).lt g e1).2
    omega
  · rcases h3.1 with e | e
    · exact .inl e
    · exact .inr ⟨_, e, by have := hB.size; omega⟩
def sidn : Tr → Int → Int → List (List Int)
  | .lf, _, _ => []
  | .nd a b, l, r => ((if a.isNd then [[l, l + (a.size : Int) + 1]] else []) ++ (if b.isNd then [[l + (a.size : Int) + 1, r]] else [])) ++ (sidn a l (l + (a.size : Int) + 1) ++ sidn b (l + (a.size : Int) + 1) r)
def RetT2 (w : World) (base : Nat) (cv sv : Value) (Cs Ss : List (Value × List Int)) (C S : List (List Int)) (e : Ending) (w' : World) : Prop :=
  ∃ cv' sv' Cn Sn, e = .returned (.tuple #[cv', sv']) ∧ T2 w' base cv' sv' (Cs ++ Cn) (Ss ++ Sn) ∧ Cn.map (fun (q : Value × List Int) => q.2) = C ∧ Sn.map (fun (q : Value × List Int) => q.2) = S ∧ Kp w w' cv sv ∧ ON w cv cv' ∧ ON w sv sv'
theorem lit2 (w : World) (a b : Int) (base : Nat) (hb : base ≤ w.heap.size) : OwI (w.alloc (.cells #[.int .i64 a, .int .i64 b] 3)) base (.slice (some ⟨w.heap.size, 0, none⟩) 2 2) [a, b] := OwR.lit (e := 3) (f := Value.int .i64) w [a, b] base hb (by simp)
theorem lit3 (w : World) (a b c : Int) (base : Nat) (hb : base ≤ w.heap.size) : OwI (w.alloc (.cells #[.int .i64 a, .int .i64 b, .int .i64 c] 3)) base (.slice (some ⟨w.heap.size, 0, none⟩) 3 3) [a, b, c] := OwR.lit (e := 3) (f := Value.int .i64) w [a, b, c] base hb (by simp)
theorem tree_two {w : World} {g : Nat} {a b : Tr} (h : TreeAt w (.pointer (some ⟨g, 0, none⟩)) (.nd a b)) : ∃ pa pb, w.cell? ⟨g, 0, none⟩ = some (.pointer pa) ∧ w.cell? ⟨g, 1, none⟩ = some (.pointer pb) ∧ TreeAt w (.pointer pa) a ∧ TreeAt w (.pointer pb) b := by
  obtain ⟨g', va, vb, e, hb, ta, tb⟩ := h
  injection e with e; injection e with e; injection e with e _
  subst e
  obtain ⟨pa, rfl⟩ := TreeAt.ptr _ ta
  obtain ⟨pb, rfl⟩ := TreeAt.ptr _ tb
  obtain ⟨c0, c1⟩ := two_cells' hb
  exact ⟨pa, pb, c0, c1, ta, tb⟩
theorem TreeAt.lf_ {w : World} {p : Option Addr} (h : TreeAt w (.pointer p) .lf) : p = none := by injection (show Value.pointer p = .pointer none from h)
theorem TreeAt.nd_ {w : World} {p : Option Addr} {T : Tr} (hT : T.isNd = true) (h : TreeAt w (.pointer p) T) : ∃ x, p = some x := by
  cases T with
  | lf => cases hT
  | nd a b =>
    obtain ⟨g, _, _, e, _⟩ := h
    injection e with e
    exact ⟨_, e⟩
theorem isNd_lf {T : Tr} (h : T.isNd = false) : T = .lf := by
  cases T with
  | lf => rfl
  | nd a b => cases h
theorem cell_lt' {w : World} {b o : Nat} {u : Value} (h : w.cell? ⟨b, o, none⟩ = some u) : b < w.heap.size := by
  rcases Nat.lt_or_ge b w.heap.size with hlt | hge
  · exact hlt
  · simp [World.cell?, Array.getElem?_eq_none hge] at h
theorem no_tr {w : World} {base g : Nat} {cv sv : Value} {Cs Ss : List (Value × List Int)} {a b : Tr} (h : T2 w base cv sv Cs Ss) (ht : TreeAt w (.pointer (some ⟨g, 0, none⟩)) (.nd a b)) : cv.ownBlock ≠ some g ∧ sv.ownBlock ≠ some g := by
  obtain ⟨g', va, vb, e, hb, _⟩ := ht
  injection e with e; injection e with e; injection e with e _
  subst e
  exact ⟨h.c.no_tree hb, h.s.no_tree hb⟩
theorem corn_len : ∀ (T : Tr) (l r : Int), (corn T l r).length = T.size := by
  intro T
  induction T with
  | lf => intro l r; rfl
  | nd a b iha ihb =>
    intro l r
    show ([l, l + (a.size : Int) + 1, r] :: (corn a l (l + (a.size : Int) + 1) ++ corn b (l + (a.size : Int) + 1) r)).length = a.size + b.size + 1
    rw [List.length_cons, List.length_append, iha, ihb]
theorem sidn_len : ∀ (T : Tr) (l r : Int), (sidn T l r).length ≤ 2 * T.size := by
  intro T
  induction T with
  | lf => intro l r; exact Nat.zero_le _
  | nd a b iha ihb =>
    intro l r
    have h1 := iha l (l + (a.size : Int) + 1)
    have h2 := ihb (l + (a.size : Int) + 1) r
    show (((if a.isNd then [[l, l + (a.size : Int) + 1]] else []) ++ (if b.isNd then [[l + (a.size : Int) + 1, r]] else [])) ++ (sidn a l (l + (a.size : Int) + 1) ++ sidn b (l + (a.size : Int) + 1) r)).length ≤ 2 * (a.size + b.size + 1)
    simp only [List.length_append]
    split <;> split <;> simp <;> omega
set_option maxRecDepth 8000 in
set_option maxHeartbeats 8000000 in
theorem tri_any : ∀ (T : Tr) (tv : Value) (l r : Int) (w : World) (base : Nat) (cv sv : Value) (Cs Ss : List (Value × List Int)), TreeAt w tv T → T.size ≤ 20 → (0 ≤ l ∧ l + (T.size : Int) ≤ 200) → T2 w base cv sv Cs Ss → base ≤ w.heap.size → Cs.length + T.size ≤ 1000 → Ss.length + 2 * T.size ≤ 1000 →
    Calls Try.prog 163 #[tv, .int .i64 l, .int .i64 r, cv, sv] w (RetT2 w base cv sv Cs Ss (corn T l r) (sidn T l r)) := by
  intro T
  induction T with
  | lf =>
    intro tv l r w base cv sv Cs Ss ht _ _ h hb _ _
    obtain rfl : tv = .pointer none := ht
    go_enter Try.func163, Try.ntmps163
    go_wp2_with fail
    go_ret2
    exact ⟨cv, sv, [], [], rfl, by simpa using h, rfl, rfl, Kp.of_below _ _ (Below.refl _ _), ON.refl _ _, ON.refl _ _⟩
  | nd a b iha ihb =>
    intro tv l r w base cv sv Cs Ss ht hs hl h hb hcl hsl
    have hsz : (Tr.nd a b).size = a.size + b.size + 1 := rfl
    have IHA := Lib.hid iha
    have IHB := Lib.hid ihb
    clear iha ihb
    obtain ⟨g, va, vb, rfl, _⟩ := id ht
    obtain ⟨pa, pb, c0, c1, ta, tb⟩ := tree_two ht
    obtain ⟨M, hM⟩ : ∃ M, M = l + (a.size : Int) + 1 := ⟨_, rfl⟩
    have HCO := Lib.hid (show corn (.nd a b) l r = [l, M, r] :: (corn a l M ++ corn b M r) by rw [hM]; rfl)
    have HSI := Lib.hid (show sidn (.nd a b) l r = ((if a.isNd then [[l, M]] else []) ++ (if b.isNd then [[M, r]] else [])) ++ (sidn a l M ++ sidn b M r) by rw [hM]; rfl)
    have ew1 : IntKind.i64.wrap (l + (a.size : Int)) = l + (a.size : Int) := IntWalk.i64_in _ (by omega)
    have ew2 : IntKind.i64.wrap (l + (a.size : Int) + 1) = l + (a.size : Int) + 1 := IntWalk.i64_in _ (by omega)
    have hMb : 0 ≤ M ∧ M + (b.size : Int) ≤ 200 := by omega
    have HM := Lib.hid hM
    clear hM
    have HN := Lib.hid (to_below (nodes_any a (.pointer pa) w ta (by omega)))
    go_enter Try.func163, Try.ntmps163
    go_wp2_with fail
    refine HN.out.mono ?_; clear HN; rintro e w1 ⟨rfl, b1⟩
    have h1 := h.below b1
    have ht1 := TreeAt.below b1 _ ht
    have K1 := Kp.of_below cv sv b1
    have hb1 : base ≤ w1.heap.size := Nat.le_trans hb b1.size
    have o2 := lit3 w1 l M r base hb1
    have bA : Below w1.heap.size w1 (w1.alloc (.cells #[.int .i64 l, .int .i64 M, .int .i64 r] 3)) := (Below.refl _ _).alloc (Nat.le_refl _) _
    have hbA : base ≤ (w1.alloc (.cells #[.int .i64 l, .int .i64 M, .int .i64 r] 3)).heap.size := Nat.le_trans hb1 bA.size
    have sA := h1.c.below bA
    have hln : Cs.length < 1099511627776 := by omega
    have hMi : l + (a.size : Int) + 1 = M := HM.out.symm
    clear c0 c1 ta tb ht b1
    go_wp2_with (at_builtin; refine wpList_appSp _ rfl _ _ rfl base cv Cs rfl sA (.slice (some ⟨w1.heap.size, 0, none⟩) 3 3, [l, M, r]) rfl rfl (by simp) hln hbA ?_)
    intro cv2 w2 s2 g2 a2
    obtain ⟨h2, k2, n2⟩ := T2.addC h1 bA o2 s2 g2 a2
    have ht2 := TreeAt.kp h1 k2 _ ht1
    have K2 := K1.trans k2 (ON.refl _ _) (ON.refl _ _)
    have N2 : ON w cv cv2 := (ON.refl w cv).trans n2 K1.size
    have hb2 : base ≤ w2.heap.size := Nat.le_trans hb1 k2.size
    clear s2 g2 a2 sA o2 bA hbA h1 ht1 K1 k2 n2 h hb
    obtain ⟨C1, hC1⟩ : ∃ C1, C1 = Cs ++ [((Value.slice (some ⟨w1.heap.size, 0, none⟩) 3 3, [l, M, r]) : Value × List Int)] := ⟨_, rfl⟩
    rw [← hC1] at h2
    have HC1 := Lib.hid hC1
    have hc1 : C1.length = Cs.length + 1 := by rw [hC1]; simp
    clear hC1
    rcases hA : a.isNd with _ | _
    · rcases hBB : b.isNd with _ | _
      · skip
        have NS2 : ON w sv sv := ON.refl _ _
        obtain ⟨pa, pb, c0, c1, ta, tb⟩ := tree_two ht2
        have hA0 := isNd_lf hA
        subst hA0
        obtain rfl := TreeAt.lf_ ta
        have hB0 := isNd_lf hBB
        subst hB0
        obtain rfl := TreeAt.lf_ tb
        clear ta tb
        obtain ⟨qa, qb, e0, e1, ta, tb⟩ := tree_two ht2
        rw [c0] at e0
        rw [c1] at e1
        injection e0 with e0; injection e0 with e0
        injection e1 with e1; injection e1 with e1
        subst e0; subst e1
        have H7 := Lib.hid (IHA.out (.pointer none) l M w2 base cv2 sv C1 Ss ta (by omega) (by omega) h2 hb2 (by omega) (by omega))
        go_wp2_with fail
        refine H7.out.mono ?_; clear H7; rintro e w7 ⟨cv7, sv7, Cn, Sn, rfl, h7, mc, ms, k7, nc, ns⟩
        have ht7 := TreeAt.kp h2 k7 _ ht2
        have f3 := k7.block g (cell_lt' c0) (no_tr h2 ht2).1 (no_tr h2 ht2).2
        have d1 := (World.cell?_of_block (a := ⟨g, 1, none⟩) f3).trans c1
        have tb7 := TreeAt.kp h2 k7 _ tb
        have K7 := K2.trans k7 N2 NS2
        have NC7 := N2.trans nc K2.size
        have NS7 := NS2.trans ns K2.size
        have hmc : Cn.length = (corn .lf l M).length := by rw [← mc]; simp
        have hms : Sn.length = (sidn .lf l M).length := by rw [← ms]; simp
        have hcz := corn_len .lf l M
        have hsz2 := sidn_len .lf l M
        have H8 := Lib.hid (IHB.out (.pointer none) M r w7 base cv7 sv7 (C1 ++ Cn) (Ss ++ Sn) tb7 (by omega) (by omega) h7 (Nat.le_trans hb2 k7.size) (by rw [List.length_append]; omega) (by rw [List.length_append]; omega))
        clear c0 c1 f3
        go_wp2_with fail
        refine H8.out.mono ?_; clear H8; rintro e w8 ⟨cv8, sv8, Dn, Tn, rfl, h8, md, mt, k8, nd, nt⟩
        have K8 := K7.trans k8 NC7 NS7
        have NC8 := NC7.trans nd K7.size
        have NS8 := NS7.trans nt K7.size
        go_wp2_with fail
        go_ret2
        refine ⟨cv8, sv8, (.slice (some ⟨w1.heap.size, 0, none⟩) 3 3, [l, M, r]) :: (Cn ++ Dn), [] ++ (Sn ++ Tn), rfl, ?_, ?_, ?_, K8, NC8, NS8⟩
        · have h9 := h8
          rw [HC1.out] at h9
          simpa [List.append_assoc] using h9
        · rw [HCO.out, List.map_cons, List.map_append, mc, md]
        · rw [HSI.out, List.map_append, List.map_append, ms, mt]
          simp [show Tr.lf.isNd = false from rfl]
      · skip
        have NS2 : ON w sv sv := ON.refl _ _
        obtain ⟨pa, pb, c0, c1, ta, tb⟩ := tree_two ht2
        have hA0 := isNd_lf hA
        subst hA0
        obtain rfl := TreeAt.lf_ ta
        obtain ⟨xb, rfl⟩ := TreeAt.nd_ hBB tb
        clear ta tb
        have oS3 := lit2 w2 M r base hb2
        have bS3 : Below w2.heap.size w2 (w2.alloc (.cells #[.int .i64 M, .int .i64 r] 3)) := (Below.refl _ _).alloc (Nat.le_refl _) _
        have hbS3 : base ≤ (w2.alloc (.cells #[.int .i64 M, .int .i64 r] 3)).heap.size := Nat.le_trans hb2 bS3.size
        have sS3 := h2.s.below bS3
        have hlS3 : Ss.length < 1099511627776 := by omega
        go_wp2_with (at_builtin; refine wpList_appSp _ rfl _ _ rfl base sv Ss rfl sS3 (.slice (some ⟨w2.heap.size, 0, none⟩) 2 2, [M, r]) rfl rfl (by simp) hlS3 hbS3 ?_)
        intro sv3 w3 s3 g3 a3
        obtain ⟨hs3, ks3, n3⟩ := T2.addC h2.swap bS3 oS3 s3 g3 a3
        have h3 := hs3.swap
        have k3 := ks3.swap
        have ht3 := TreeAt.kp h2 k3 _ ht2
        have e3 := k3.block g (cell_lt' c0) (no_tr h2 ht2).1 (no_tr h2 ht2).2
        have d0 := (World.cell?_of_block (a := ⟨g, 0, none⟩) e3).trans c0
        have d1 := (World.cell?_of_block (a := ⟨g, 1, none⟩) e3).trans c1
        clear e3 c0 c1
        have c0 := d0
        have c1 := d1
        clear d0 d1
        have K3 := K2.trans k3 N2 NS2
        have NS3 : ON w sv sv3 := NS2.trans n3 K2.size
        have hb3 : base ≤ w3.heap.size := Nat.le_trans hb2 k3.size
        clear s3 g3 a3 sS3 oS3 bS3 hbS3 hs3 ks3 k3 n3 K2 NS2 ht2 h2
        obtain ⟨S3, hS3⟩ : ∃ S, S = Ss ++ [((Value.slice (some ⟨w2.heap.size, 0, none⟩) 2 2, [M, r]) : Value × List Int)] := ⟨_, rfl⟩
        rw [← hS3] at h3
        have HS3 := Lib.hid hS3
        have HL3 := Lib.hid (show S3.length = Ss.length + 1 by rw [hS3]; simp)
        clear hS3
        obtain ⟨qa, qb, e0, e1, ta, tb⟩ := tree_two ht3
        rw [c0] at e0
        rw [c1] at e1
        injection e0 with e0; injection e0 with e0
        injection e1 with e1; injection e1 with e1
        subst e0; subst e1
        have hs3 := HL3.out
        have H7 := Lib.hid (IHA.out (.pointer none) l M w3 base cv2 sv3 C1 S3 ta (by omega) (by omega) h3 hb3 (by omega) (by omega))
        go_wp2_with fail
        refine H7.out.mono ?_; clear H7; rintro e w7 ⟨cv7, sv7, Cn, Sn, rfl, h7, mc, ms, k7, nc, ns⟩
        have ht7 := TreeAt.kp h3 k7 _ ht3
        have f3 := k7.block g (cell_lt' c0) (no_tr h3 ht3).1 (no_tr h3 ht3).2
        have d1 := (World.cell?_of_block (a := ⟨g, 1, none⟩) f3).trans c1
        have tb7 := TreeAt.kp h3 k7 _ tb
        have K7 := K3.trans k7 N2 NS3
        have NC7 := N2.trans nc K3.size
        have NS7 := NS3.trans ns K3.size
        have hmc : Cn.length = (corn .lf l M).length := by rw [← mc]; simp
        have hms : Sn.length = (sidn .lf l M).length := by rw [← ms]; simp
        have hcz := corn_len .lf l M
        have hsz2 := sidn_len .lf l M
        have H8 := Lib.hid (IHB.out (.pointer (some xb)) M r w7 base cv7 sv7 (C1 ++ Cn) (S3 ++ Sn) tb7 (by omega) (by omega) h7 (Nat.le_trans hb3 k7.size) (by rw [List.length_append]; omega) (by rw [List.length_append]; omega))
        clear c0 c1 f3 hs3
        go_wp2_with fail
        refine H8.out.mono ?_; clear H8; rintro e w8 ⟨cv8, sv8, Dn, Tn, rfl, h8, md, mt, k8, nd, nt⟩
        have K8 := K7.trans k8 NC7 NS7
        have NC8 := NC7.trans nd K7.size
        have NS8 := NS7.trans nt K7.size
        go_wp2_with fail
        go_ret2
        refine ⟨cv8, sv8, (.slice (some ⟨w1.heap.size, 0, none⟩) 3 3, [l, M, r]) :: (Cn ++ Dn), [(.slice (some ⟨w2.heap.size, 0, none⟩) 2 2, [M, r])] ++ (Sn ++ Tn), rfl, ?_, ?_, ?_, K8, NC8, NS8⟩
        · have h9 := h8
          rw [HC1.out, HS3.out] at h9
          simpa [List.append_assoc] using h9
        · rw [HCO.out, List.map_cons, List.map_append, mc, md]
        · rw [HSI.out, List.map_append, List.map_append, ms, mt]
          simp [show Tr.lf.isNd = false from rfl, hBB]
    · rcases hBB : b.isNd with _ | _
      · skip
        have NS2 : ON w sv sv := ON.refl _ _
        obtain ⟨pa, pb, c0, c1, ta, tb⟩ := tree_two ht2
        obtain ⟨xa, rfl⟩ := TreeAt.nd_ hA ta
        have hB0 := isNd_lf hBB
        subst hB0
        obtain rfl := TreeAt.lf_ tb
        clear ta tb
        have oS3 := lit2 w2 l M base hb2
        have bS3 : Below w2.heap.size w2 (w2.alloc (.cells #[.int .i64 l, .int .i64 M] 3)) := (Below.refl _ _).alloc (Nat.le_refl _) _
        have hbS3 : base ≤ (w2.alloc (.cells #[.int .i64 l, .int .i64 M] 3)).heap.size := Nat.le_trans hb2 bS3.size
        have sS3 := h2.s.below bS3
        have hlS3 : Ss.length < 1099511627776 := by omega
        go_wp2_with (at_builtin; refine wpList_appSp _ rfl _ _ rfl base sv Ss rfl sS3 (.slice (some ⟨w2.heap.size, 0, none⟩) 2 2, [l, M]) rfl rfl (by simp) hlS3 hbS3 ?_)
        intro sv3 w3 s3 g3 a3
        obtain ⟨hs3, ks3, n3⟩ := T2.addC h2.swap bS3 oS3 s3 g3 a3
        have h3 := hs3.swap
        have k3 := ks3.swap
        have ht3 := TreeAt.kp h2 k3 _ ht2
        have e3 := k3.block g (cell_lt' c0) (no_tr h2 ht2).1 (no_tr h2 ht2).2
        have d0 := (World.cell?_of_block (a := ⟨g, 0, none⟩) e3).trans c0
        have d1 := (World.cell?_of_block (a := ⟨g, 1, none⟩) e3).trans c1
        clear e3 c0 c1
        have c0 := d0
        have c1 := d1
        clear d0 d1
        have K3 := K2.trans k3 N2 NS2
        have NS3 : ON w sv sv3 := NS2.trans n3 K2.size
        have hb3 : base ≤ w3.heap.size := Nat.le_trans hb2 k3.size
        clear s3 g3 a3 sS3 oS3 bS3 hbS3 hs3 ks3 k3 n3 K2 NS2 ht2 h2
        obtain ⟨S3, hS3⟩ : ∃ S, S = Ss ++ [((Value.slice (some ⟨w2.heap.size, 0, none⟩) 2 2, [l, M]) : Value × List Int)] := ⟨_, rfl⟩
        rw [← hS3] at h3
        have HS3 := Lib.hid hS3
        have HL3 := Lib.hid (show S3.length = Ss.length + 1 by rw [hS3]; simp)
        clear hS3
        obtain ⟨qa, qb, e0, e1, ta, tb⟩ := tree_two ht3
        rw [c0] at e0
        rw [c1] at e1
        injection e0 with e0; injection e0 with e0
        injection e1 with e1; injection e1 with e1
        subst e0; subst e1
        have hs3 := HL3.out
        have H7 := Lib.hid (IHA.out (.pointer (some xa)) l M w3 base cv2 sv3 C1 S3 ta (by omega) (by omega) h3 hb3 (by omega) (by omega))
        go_wp2_with fail
        refine H7.out.mono ?_; clear H7; rintro e w7 ⟨cv7, sv7, Cn, Sn, rfl, h7, mc, ms, k7, nc, ns⟩
        have ht7 := TreeAt.kp h3 k7 _ ht3
        have f3 := k7.block g (cell_lt' c0) (no_tr h3 ht3).1 (no_tr h3 ht3).2
        have d1 := (World.cell?_of_block (a := ⟨g, 1, none⟩) f3).trans c1
        have tb7 := TreeAt.kp h3 k7 _ tb
        have K7 := K3.trans k7 N2 NS3
        have NC7 := N2.trans nc K3.size
        have NS7 := NS3.trans ns K3.size
        have hmc : Cn.length = (corn a l M).length := by rw [← mc]; simp
        have hms : Sn.length = (sidn a l M).length := by rw [← ms]; simp
        have hcz := corn_len a l M
        have hsz2 := sidn_len a l M
        have H8 := Lib.hid (IHB.out (.pointer none) M r w7 base cv7 sv7 (C1 ++ Cn) (S3 ++ Sn) tb7 (by omega) (by omega) h7 (Nat.le_trans hb3 k7.size) (by rw [List.length_append]; omega) (by rw [List.length_append]; omega))
        clear c0 c1 f3 hs3
        go_wp2_with fail
        refine H8.out.mono ?_; clear H8; rintro e w8 ⟨cv8, sv8, Dn, Tn, rfl, h8, md, mt, k8, nd, nt⟩
        have K8 := K7.trans k8 NC7 NS7
        have NC8 := NC7.trans nd K7.size
        have NS8 := NS7.trans nt K7.size
        go_wp2_with fail
        go_ret2
        refine ⟨cv8, sv8, (.slice (some ⟨w1.heap.size, 0, none⟩) 3 3, [l, M, r]) :: (Cn ++ Dn), [(.slice (some ⟨w2.heap.size, 0, none⟩) 2 2, [l, M])] ++ (Sn ++ Tn), rfl, ?_, ?_, ?_, K8, NC8, NS8⟩
        · have h9 := h8
          rw [HC1.out, HS3.out] at h9
          simpa [List.append_assoc] using h9
        · rw [HCO.out, List.map_cons, List.map_append, mc, md]
        · rw [HSI.out, List.map_append, List.map_append, ms, mt]
          simp [show Tr.lf.isNd = false from rfl, hA]
      · skip
        have NS2 : ON w sv sv := ON.refl _ _
        obtain ⟨pa, pb, c0, c1, ta, tb⟩ := tree_two ht2
        obtain ⟨xa, rfl⟩ := TreeAt.nd_ hA ta
        obtain ⟨xb, rfl⟩ := TreeAt.nd_ hBB tb
        clear ta tb
        have oS3 := lit2 w2 l M base hb2
        have bS3 : Below w2.heap.size w2 (w2.alloc (.cells #[.int .i64 l, .int .i64 M] 3)) := (Below.refl _ _).alloc (Nat.le_refl _) _
        have hbS3 : base ≤ (w2.alloc (.cells #[.int .i64 l, .int .i64 M] 3)).heap.size := Nat.le_trans hb2 bS3.size
        have sS3 := h2.s.below bS3
        have hlS3 : Ss.length < 1099511627776 := by omega
        go_wp2_with (at_builtin; refine wpList_appSp _ rfl _ _ rfl base sv Ss rfl sS3 (.slice (some ⟨w2.heap.size, 0, none⟩) 2 2, [l, M]) rfl rfl (by simp) hlS3 hbS3 ?_)
        intro sv3 w3 s3 g3 a3
        obtain ⟨hs3, ks3, n3⟩ := T2.addC h2.swap bS3 oS3 s3 g3 a3
        have h3 := hs3.swap
        have k3 := ks3.swap
        have ht3 := TreeAt.kp h2 k3 _ ht2
        have e3 := k3.block g (cell_lt' c0) (no_tr h2 ht2).1 (no_tr h2 ht2).2
        have d0 := (World.cell?_of_block (a := ⟨g, 0, none⟩) e3).trans c0
        have d1 := (World.cell?_of_block (a := ⟨g, 1, none⟩) e3).trans c1
        clear e3 c0 c1
        have c0 := d0
        have c1 := d1
        clear d0 d1
        have K3 := K2.trans k3 N2 NS2
        have NS3 : ON w sv sv3 := NS2.trans n3 K2.size
        have hb3 : base ≤ w3.heap.size := Nat.le_trans hb2 k3.size
        clear s3 g3 a3 sS3 oS3 bS3 hbS3 hs3 ks3 k3 n3 K2 NS2 ht2 h2
        obtain ⟨S3, hS3⟩ : ∃ S, S = Ss ++ [((Value.slice (some ⟨w2.heap.size, 0, none⟩) 2 2, [l, M]) : Value × List Int)] := ⟨_, rfl⟩
        rw [← hS3] at h3
        have HS3 := Lib.hid hS3
        have HL3 := Lib.hid (show S3.length = Ss.length + 1 by rw [hS3]; simp)
        clear hS3
        have oS4 := lit2 w3 M r base hb3
        have bS4 : Below w3.heap.size w3 (w3.alloc (.cells #[.int .i64 M, .int .i64 r] 3)) := (Below.refl _ _).alloc (Nat.le_refl _) _
        have hbS4 : base ≤ (w3.alloc (.cells #[.int .i64 M, .int .i64 r] 3)).heap.size := Nat.le_trans hb3 bS4.size
        have sS4 := h3.s.below bS4
        have hlS4 : S3.length < 1099511627776 := by have := HL3.out; omega
        go_wp2_with (at_builtin; refine wpList_appSp _ rfl _ _ rfl base sv3 S3 rfl sS4 (.slice (some ⟨w3.heap.size, 0, none⟩) 2 2, [M, r]) rfl rfl (by simp) hlS4 hbS4 ?_)
        intro sv4 w4 s4 g4 a4
        obtain ⟨hs4, ks4, n4⟩ := T2.addC h3.swap bS4 oS4 s4 g4 a4
        have h4 := hs4.swap
        have k4 := ks4.swap
        have ht4 := TreeAt.kp h3 k4 _ ht3
        have e3 := k4.block g (cell_lt' c0) (no_tr h3 ht3).1 (no_tr h3 ht3).2
        have d0 := (World.cell?_of_block (a := ⟨g, 0, none⟩) e3).trans c0
        have d1 := (World.cell?_of_block (a := ⟨g, 1, none⟩) e3).trans c1
        clear e3 c0 c1
        have c0 := d0
        have c1 := d1
        clear d0 d1
        have K4 := K3.trans k4 N2 NS3
        have NS4 : ON w sv sv4 := NS3.trans n4 K3.size
        have hb4 : base ≤ w4.heap.size := Nat.le_trans hb3 k4.size
        clear s4 g4 a4 sS4 oS4 bS4 hbS4 hs4 ks4 k4 n4 K3 NS3 ht3 h3
        obtain ⟨S4, hS4⟩ : ∃ S, S = S3 ++ [((Value.slice (some ⟨w3.heap.size, 0, none⟩) 2 2, [M, r]) : Value × List Int)] := ⟨_, rfl⟩
        rw [← hS4] at h4
        have HS4 := Lib.hid hS4
        have HL4 := Lib.hid (show S4.length = S3.length + 1 by rw [hS4]; simp)
        clear hS4
        obtain ⟨qa, qb, e0, e1, ta, tb⟩ := tree_two ht4
        rw [c0] at e0
        rw [c1] at e1
        injection e0 with e0; injection e0 with e0
        injection e1 with e1; injection e1 with e1
        subst e0; subst e1
        have hs3 := HL3.out
        have hs4 := HL4.out
        have H7 := Lib.hid (IHA.out (.pointer (some xa)) l M w4 base cv2 sv4 C1 S4 ta (by omega) (by omega) h4 hb4 (by omega) (by omega))
        go_wp2_with fail
        refine H7.out.mono ?_; clear H7; rintro e w7 ⟨cv7, sv7, Cn, Sn, rfl, h7, mc, ms, k7, nc, ns⟩
        have ht7 := TreeAt.kp h4 k7 _ ht4
        have f3 := k7.block g (cell_lt' c0) (no_tr h4 ht4).1 (no_tr h4 ht4).2
        have d1 := (World.cell?_of_block (a := ⟨g, 1, none⟩) f3).trans c1
        have tb7 := TreeAt.kp h4 k7 _ tb
        have K7 := K4.trans k7 N2 NS4
        have NC7 := N2.trans nc K4.size
        have NS7 := NS4.trans ns K4.size
        have hmc : Cn.length = (corn a l M).length := by rw [← mc]; simp
        have hms : Sn.length = (sidn a l M).length := by rw [← ms]; simp
        have hcz := corn_len a l M
        have hsz2 := sidn_len a l M
        have H8 := Lib.hid (IHB.out (.pointer (some xb)) M r w7 base cv7 sv7 (C1 ++ Cn) (S4 ++ Sn) tb7 (by omega) (by omega) h7 (Nat.le_trans hb4 k7.size) (by rw [List.length_append]; omega) (by rw [List.length_append]; omega))
        clear c0 c1 f3 hs3 hs4
        go_wp2_with fail
        refine H8.out.mono ?_; clear H8; rintro e w8 ⟨cv8, sv8, Dn, Tn, rfl, h8, md, mt, k8, nd, nt⟩
        have K8 := K7.trans k8 NC7 NS7
        have NC8 := NC7.trans nd K7.size
        have NS8 := NS7.trans nt K7.size
        go_wp2_with fail
        go_ret2
        refine ⟨cv8, sv8, (.slice (some ⟨w1.heap.size, 0, none⟩) 3 3, [l, M, r]) :: (Cn ++ Dn), [(.slice (some ⟨w2.heap.size, 0, none⟩) 2 2, [l, M]), (.slice (some ⟨w3.heap.size, 0, none⟩) 2 2, [M, r])] ++ (Sn ++ Tn), rfl, ?_, ?_, ?_, K8, NC8, NS8⟩
        · have h9 := h8
          rw [HC1.out, HS4.out, HS3.out] at h9
          simpa [List.append_assoc] using h9
        · rw [HCO.out, List.map_cons, List.map_append, mc, md]
        · rw [HSI.out, List.map_append, List.map_append, ms, mt]
          simp [hA, hBB]
end Go.Proofs.Ytnkkgfeegaiakaa
