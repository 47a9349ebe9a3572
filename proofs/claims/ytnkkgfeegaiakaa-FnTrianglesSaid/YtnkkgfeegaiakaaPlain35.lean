/- Plain words of the diagonals of a tree: in preorder, no diagonal twice; the reader at a place inside a text. No condition but what each lemma says. -/
import Derived.Test.YtnkkgfeegaiakaaTriTurn
import Derived.Test.YtnkkgfeegaiakaaTreeParse
import Derived.Test.YtnkkgfeegaiakaaTreeTri
namespace Go.Proofs.Ytnkkgfeegaiakaa
open Go.RowKit
/-- the diagonals of a tree between two corners, its own side first -/
def cutD : Tr → Int → Int → List (List Int)
  | .lf, _, _ => []
  | .nd a b, l, r => [l, r] :: (cutD a l (l + (a.size : Int) + 1) ++ cutD b (l + (a.size : Int) + 1) r)
def ownS (T : Tr) (l r : Int) : List (List Int) := if T.isNd then [[l, r]] else []
theorem cutD_perm : ∀ (T : Tr) (l r : Int), (cutD T l r).Perm (ownS T l r ++ sidn T l r)
  | .lf, l, r => List.Perm.refl _
  | .nd a b, l, r => by
    have ha := cutD_perm a l (l + (a.size : Int) + 1)
    have hb := cutD_perm b (l + (a.size : Int) + 1) r
    show ([l, r] :: (cutD a l (l + (a.size : Int) + 1) ++ cutD b (l + (a.size : Int) + 1) r)).Perm ([l, r] :: ((ownS a l (l + (a.size : Int) + 1) ++ ownS b (l + (a.size : Int) + 1) r) ++ (sidn a l (l + (a.size : Int) + 1) ++ sidn b (l + (a.size : Int) + 1) r)))
    refine List.Perm.cons _ ((List.Perm.append ha hb).trans ?_)
    simp only [List.append_assoc]
    exact List.Perm.append_left _ (List.perm_append_comm_assoc _ _ _)
theorem cutD_len : ∀ (T : Tr) (l r : Int), (cutD T l r).length = T.size
  | .lf, l, r => rfl
  | .nd a b, l, r => by
    show ([l, r] :: (cutD a l (l + (a.size : Int) + 1) ++ cutD b (l + (a.size : Int) + 1) r)).length = a.size + b.size + 1
    rw [List.length_cons, List.length_append, cutD_len a, cutD_len b]
theorem cutD_mem : ∀ (T : Tr) (l r : Int), r = l + T.size + 1 → ∀ x ∈ cutD T l r, ∃ p q, x = [p, q] ∧ l ≤ p ∧ p + 2 ≤ q ∧ q ≤ r
  | .lf, l, r, _, x, hx => by cases hx
  | .nd a b, l, r, h, x, hx => by
    have hs : (Tr.nd a b).size = a.size + b.size + 1 := rfl
    rcases List.mem_cons.1 hx with hx | hx
    · exact ⟨l, r, hx, by omega, by omega, by omega⟩
    · rcases List.mem_append.1 hx with hx | hx
      · obtain ⟨p, q, e, h1, h2, h3⟩ := cutD_mem a l _ rfl x hx
        exact ⟨p, q, e, by omega, by omega, by omega⟩
      · obtain ⟨p, q, e, h1, h2, h3⟩ := cutD_mem b _ r (by omega) x hx
        exact ⟨p, q, e, by omega, by omega, by omega⟩
theorem cutD_nodup : ∀ (T : Tr) (l r : Int), r = l + T.size + 1 → (cutD T l r).Nodup
  | .lf, l, r, _ => List.nodup_nil
  | .nd a b, l, r, h => by
    have hs : (Tr.nd a b).size = a.size + b.size + 1 := rfl
    have ha := cutD_mem a l _ rfl
    have hb := cutD_mem b (l + (a.size : Int) + 1) r (by omega)
    refine List.nodup_cons.2 ⟨fun hx => ?_, List.nodup_append.2 ⟨cutD_nodup a _ _ rfl, cutD_nodup b _ _ (by omega), fun x hx y hy hxy => ?_⟩⟩
    · rcases List.mem_append.1 hx with hx | hx
      · obtain ⟨p, q, e, h1, h2, h3⟩ := ha _ hx
        injection e with e1 e; injection e with e2 _
        omega
      · obtain ⟨p, q, e, h1, h2, h3⟩ := hb _ hx
        injection e with e1 e; injection e with e2 _
        omega
    · subst hxy
      obtain ⟨p, q, e, h1, h2, h3⟩ := ha _ hx
      obtain ⟨p', q', e', h1', h2', h3'⟩ := hb _ hy
      rw [e] at e'
      injection e' with e1 e'; injection e' with e2 _
      omega
/-- the diagonals of a tree -/
def dgs (T : Tr) : List (List Int) := (cutD T 0 ((T.size : Int) + 1)).tail
theorem dgs_nodup (T : Tr) : (dgs T).Nodup := (cutD_nodup T 0 _ (by omega)).sublist (List.tail_sublist _)
theorem dgs_len (T : Tr) : (dgs T).length = T.size - 1 := by unfold dgs; rw [List.length_tail, cutD_len]
theorem sid_perm (T : Tr) : (sidn T 0 ((T.size : Int) + 1)).Perm (dgs T) := by
  have h := cutD_perm T 0 ((T.size : Int) + 1)
  unfold dgs
  cases T with
  | lf => exact List.Perm.refl _
  | nd a b => exact (List.Perm.cons_inv h).symm
def tgR (l : List UInt8) : List (List Int) × Bool := match ptR l with
  | none => ([], false)
  | some T => (putsG [] ltL (dgs T), true)
theorem tgR_some {l : List UInt8} {T : Tr} (h : ptR l = some T) : tgR l = (putsG [] ltL (dgs T), true) := by unfold tgR; rw [h]
theorem tgR_none {l : List UInt8} (h : ptR l = none) : tgR l = ([], false) := by unfold tgR; rw [h]
theorem tg_sid (T : Tr) : putsG [] ltL (sidn T 0 ((T.size : Int) + 1)) = putsG [] ltL (dgs T) :=
  (putsG_of_perm [] (lt := ltL) ltL_total (dgs_nodup T) (sid_perm T).symm).symm
theorem dgs_two {T : Tr} {x : List Int} (h : x ∈ dgs T) : x.length = 2 := by
  obtain ⟨p, q, e, _⟩ := cutD_mem T 0 _ (by omega) x (List.mem_of_mem_tail h)
  rw [e]; rfl
theorem tgR_off (l : List UInt8) : off (tgR l).1 (tgR l).1.length ≤ 1000 := by
  rcases h : ptR l with _ | T
  · rw [tgR_none h]; simp [off, sumTo]
  · rw [tgR_some h]
    have h8 := (ptR_text.1 h).2
    have hl : (putsG [] ltL (dgs T)).length = T.size - 1 := by rw [putsG_len, dgs_len]
    have := off_le_rows (xss := putsG [] ltL (dgs T)) (B := 2) (fun q hq => by rw [dgs_two (putsG_mem hq)]; exact Nat.le_refl _)
    show off (putsG [] ltL (dgs T)) (putsG [] ltL (dgs T)).length ≤ _
    omega
theorem rdAt_text {T : Tr} {l pre post : List UInt8} {f i : Nat} (h : l = pre ++ (txT T ++ post)) (hi : i = pre.length) (hf : (txT T).length ≤ f) : rdAt f l i = some (T, i + (txT T).length) := by
  subst h; subst hi
  unfold rdAt
  rw [List.drop_left, rdT_text T f post hf]
  simp only [Option.map_some, List.length_append, Option.some.injEq, Prod.mk.injEq, true_and]
  omega
theorem ptR_txT {T : Tr} (h : T.size ≤ 8) : ptR (txT T) = some T := ptR_text.2 ⟨rfl, h⟩
/-- the order in which the reference's l7Cut puts them -/
def cutN (n : Int) : Tr → Int → Int → List (List Int)
  | .lf, _, _ => []
  | .nd a b, l, r => (if l = 0 ∧ r = n - 1 then [] else [[l, r]]) ++ (cutN n a l (l + (a.size : Int) + 1) ++ cutN n b (l + (a.size : Int) + 1) r)
theorem cutN_in (n : Int) : ∀ (T : Tr) (l r : Int), r = l + T.size + 1 → ¬ (l ≤ 0 ∧ n - 1 ≤ r) → cutN n T l r = cutD T l r
  | .lf, l, r, _, _ => rfl
  | .nd a b, l, r, h, hn => by
    have hs : (Tr.nd a b).size = a.size + b.size + 1 := rfl
    show (if l = 0 ∧ r = n - 1 then [] else [[l, r]]) ++ (cutN n a l (l + (a.size : Int) + 1) ++ cutN n b (l + (a.size : Int) + 1) r) = [l, r] :: (cutD a l (l + (a.size : Int) + 1) ++ cutD b (l + (a.size : Int) + 1) r)
    rw [if_neg (by omega), cutN_in n a l _ rfl (by omega), cutN_in n b _ r (by omega) (by omega)]
    rfl
theorem cutN_all (T : Tr) : cutN ((T.size : Int) + 2) T 0 ((T.size : Int) + 1) = dgs T := by
  unfold dgs
  cases T with
  | lf => rfl
  | nd a b =>
    have hs : (Tr.nd a b).size = a.size + b.size + 1 := rfl
    show (if (0 : Int) = 0 ∧ (((Tr.nd a b).size : Nat) : Int) + 1 = (((Tr.nd a b).size : Nat) : Int) + 2 - 1 then [] else [[0, (((Tr.nd a b).size : Nat) : Int) + 1]]) ++ (cutN (((Tr.nd a b).size : Nat) + 2) a 0 (0 + (a.size : Int) + 1) ++ cutN (((Tr.nd a b).size : Nat) + 2) b (0 + (a.size : Int) + 1) (((Tr.nd a b).size : Nat) + 1)) = cutD a 0 (0 + (a.size : Int) + 1) ++ cutD b (0 + (a.size : Int) + 1) (((Tr.nd a b).size : Nat) + 1)
    rw [if_pos ⟨rfl, by omega⟩, cutN_in _ a _ _ rfl (by omega), cutN_in _ b _ _ (by omega) (by omega)]
    rfl
end Go.Proofs.Ytnkkgfeegaiakaa
