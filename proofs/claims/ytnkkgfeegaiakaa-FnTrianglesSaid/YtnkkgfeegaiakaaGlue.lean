/- Texts laid one behind the other with another one between them: the program's 'glued'. No condition but the sizes. -/
import Derived.Test.YtnkkgfeegaiakaaFmt
namespace Go.Proofs.Ytnkkgfeegaiakaa
open Go.RowKit
/-- the first k texts, with one between them -/
def gl (c : List UInt8) (ss : List (List UInt8)) (k : Nat) : List UInt8 := (List.range k).flatMap fun (i : Nat) => (if i = 0 then [] else c) ++ ss.getD i []
theorem gl_succ {c : List UInt8} {ss : List (List UInt8)} {k : Nat} (h : k < ss.length) : gl c ss (k + 1) = gl c ss k ++ ((if k = 0 then [] else c) ++ ss[k]) := by
  simp [gl, List.range_succ, List.getD, h]
theorem gl_len {c : List UInt8} {ss : List (List UInt8)} {B : Nat} (h : ∀ i (_ : i < ss.length), c.length + ss[i].length ≤ B) : ∀ k, k ≤ ss.length → (gl c ss k).length ≤ k * B := by
  intro k
  induction k with
  | zero => intro _; simp [gl]
  | succ k ih =>
    intro hk
    rw [gl_succ hk, List.length_append, List.length_append, Nat.succ_mul]
    have h1 := ih (by omega)
    have h2 := h k hk
    have h3 : (if k = 0 then ([] : List UInt8) else c).length ≤ c.length := by split <;> simp
    omega
theorem gl_snoc (c : List UInt8) (ss : List (List UInt8)) (x : List UInt8) : gl c (ss ++ [x]) (ss ++ [x]).length = gl c ss ss.length ++ ((if ss.length = 0 then [] else c) ++ x) := by
  have h : ∀ k, k ≤ ss.length → gl c (ss ++ [x]) k = gl c ss k := by
    intro k
    induction k with
    | zero => intro _; rfl
    | succ k ih =>
      intro hk
      rw [gl_succ (by simp; omega), gl_succ hk, ih (by omega), List.getElem_append_left hk]
  rw [List.length_append, List.length_singleton, gl_succ (by simp), h _ (Nat.le_refl _), List.getElem_append_right (Nat.le_refl _)]
  simp
/-- a list of letters as a text's cell -/
def sf (l : List UInt8) : Value := .string (S l)
theorem S_append (a b : List UInt8) : S a ++ S b = S (a ++ b) := by
  unfold S
  rw [ByteArray.mk_append_mk]
  try simp
theorem info_str : (Try.prog.info? 9).map (fun i => (i.zero, i.size, i.bytes)) = some (some (sf []), 1, 16) := by kernel_rfl
theorem glued_any (v : Value) (ss : List (List UInt8)) (c : List UInt8) (w : World) (hv : RdR sf w v ss) (hb : ∀ i (_ : i < ss.length), c.length + ss[i].length ≤ 1000) (hl : ss.length ≤ 1000) :
    Calls Try.prog 209 #[v, .string (S c)] w fun e w' => e = .returned (.string (S (gl c ss ss.length))) ∧ w = w' := by
  have HB := Lib.hid hb
  have HL := Lib.hid (gl_len hb)
  obtain ⟨A, cap, rfl, hc, _, hA⟩ := hv
  clear hb
  go_enter Try.func209, Try.ntmps209
  go_wp2_with fail
  go_loop [5, 10] (fun x i => ∃ k : Nat, k ≤ ss.length ∧ i = .int .i64 k ∧ x = .string (S (gl c ss k))) (fun _ i => ss.length - (intOf i).toNat)
  case atStart => exact ⟨0, by omega, rfl, rfl⟩
  case round =>
    obtain ⟨k, hk, rfl, rfl⟩ := hrel
    by_cases hlt : k < ss.length
    · obtain ⟨b, o, rfl, _, hcl⟩ := hA (by omega)
      have c1 : w.cell? ⟨b, o + k, none⟩ = some (.string (S ss[k])) := hcl k hlt
      have h1 : (gl c ss k).length ≤ 1000000 := by have := HL.out k hk; omega
      have h2 := HB.out k hlt
      have s1 : (S (gl c ss k)).size ≤ 1000000 := by rw [S_size]; exact h1
      have s2 : (S (gl c ss k ++ c)).size ≤ 1001000 := by rw [S_size, List.length_append]; omega
      have s3 : (S ss[k]).size ≤ 1000 := by rw [S_size]; omega
      have s4 : (S c).size ≤ 1000 := by rw [S_size]; omega
      have HG := Lib.hid (gl_succ (c := c) hlt)
      have HA := Lib.hid (S_append (gl c ss k) c)
      clear hcl hA
      by_cases h0 : k = 0
      · subst h0
        have c1 : w.cell? ⟨b, o, none⟩ = some (.string (S ss[0])) := c1
        have HN := Lib.hid (show S (gl c ss 0) ++ S ss[0] = S (gl c ss (0 + 1)) by rw [S_append, HG.out, if_pos rfl, List.nil_append])
        go_wp2_with fail
        go_round
        case rel => exact ⟨1, by omega, by go_num, by rw [HN.out]⟩
        case measure => simp [intOf]; omega
      · have h00 : 0 < k := by omega
        have HN := Lib.hid (show S (gl c ss k) ++ S c ++ S ss[k] = S (gl c ss (k + 1)) by rw [S_append, S_append, HG.out, if_neg h0, List.append_assoc])
        have s5 : (S (gl c ss k) ++ S c).size ≤ 1001000 := by rw [S_append]; exact s2
        clear h0
        go_wp2_with fail
        go_round
        case rel => exact ⟨k + 1, by omega, by go_num, by rw [HN.out]⟩
        case measure => simp [intOf]; omega
    · have hke : k = ss.length := by omega
      subst hke
      go_wp2_with fail
      go_ret
      exact ⟨rfl, rfl⟩
end Go.Proofs.Ytnkkgfeegaiakaa
