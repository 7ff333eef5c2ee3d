/-
  Plain: bytes that are laid over others, and an input one of whose rows is another one.
-/
import Derived.Test.YtikgobndekgjcaaDoorRws
namespace Go.Proofs.YtikgobndekgjcaaDoor
open Go.RowKit

def patch (b : List UInt8) (p : Nat) (L : List UInt8) : List UInt8 := b.take p ++ (L ++ b.drop (p + L.length))
theorem patch_nil (b : List UInt8) (p : Nat) : patch b p [] = b := by simp [patch]
theorem patch_len {b : List UInt8} {p : Nat} {L : List UInt8} (h : p + L.length ≤ b.length) : (patch b p L).length = b.length := by
  simp [patch]; omega
theorem patch_set {b : List UInt8} {p : Nat} {L : List UInt8} (h : p + L.length < b.length) (u : UInt8) : (patch b p L).set (p + L.length) u = patch b p (L ++ [u]) := by
  unfold patch
  have e1 : (b.take p ++ L).length = p + L.length := by simp; omega
  have e2 : ∀ (x : UInt8) (r : List UInt8), (b.take p ++ L ++ x :: r).set (p + L.length) u = b.take p ++ L ++ u :: r := fun x r => by
    rw [← e1, List.set_append_right _ _ (Nat.le_refl _), Nat.sub_self, List.set_cons_zero]
  rw [← List.append_assoc, List.drop_eq_getElem_cons h, e2]
  simp
  rw [Nat.add_assoc]
theorem patch_mid (P M S : List UInt8) {q : Nat} {L : List UInt8} (h : q + L.length ≤ M.length) : patch (P ++ (M ++ S)) (P.length + q) L = P ++ (patch M q L ++ S) := by
  unfold patch
  rw [List.take_length_add_append, Nat.add_assoc, List.drop_length_add_append, List.take_append_of_le_length (by omega), List.drop_append_of_le_length h]
  simp
theorem le_mod (x n : Nat) : le (x % 2 ^ (8 * n)) n = le x n := by
  have := le_rd (le x n)
  rw [rd_le, length_le] at this
  exact this
theorem le_u32 (x : Nat) : le (UInt32.ofNat x).toNat 4 = le x 4 := by
  rw [← le_mod x 4]
  simp
theorem row_drop (e : Ed) : e.row.drop 4 = le e.h.toNat 4 ++ le e.w.toNat 8 ∧ e.row.drop 8 = le e.w.toNat 8 ∧ e.row.take 4 = le e.t.toNat 4 ∧ e.row.take 8 = le e.t.toNat 4 ++ le e.h.toNat 4 ∧ e.row.drop 16 = [] := by
  unfold Ed.row
  have l2 : (le e.t.toNat 4 ++ le e.h.toNat 4).length = 8 := by simp [length_le]
  refine ⟨by rw [List.append_assoc, drop_le], ?_, by rw [List.append_assoc, take_le], ?_, by rw [List.drop_of_length_le]; simp [length_le]⟩
  · have := List.drop_left (l₁ := le e.t.toNat 4 ++ le e.h.toNat 4) (l₂ := le e.w.toNat 8)
    rwa [l2] at this
  · have := List.take_left (l₁ := le e.t.toNat 4 ++ le e.h.toNat 4) (l₂ := le e.w.toNat 8)
    rwa [l2] at this
theorem patch_t (e : Ed) (X : Nat) : patch e.row (4 * 0) (le X 4) = (⟨UInt32.ofNat X, e.h, e.w, e.m⟩ : Ed).row := by
  have h := row_drop e
  unfold patch
  rw [length_le, show (4 * 0 + 4 : Nat) = 4 from rfl, h.1]
  simp [Ed.row, le_u32]
  rw [← le_u32 X]; simp
theorem patch_h (e : Ed) (X : Nat) : patch e.row (4 * 1) (le X 4) = (⟨e.t, UInt32.ofNat X, e.w, e.m⟩ : Ed).row := by
  have h := row_drop e
  unfold patch
  rw [length_le, show (4 * 1 + 4 : Nat) = 8 from rfl, show (4 * 1 : Nat) = 4 from rfl, h.2.1, h.2.2.1]
  unfold Ed.row
  rw [le_u32, List.append_assoc]
theorem patch_w (e : Ed) (X : UInt64) : patch e.row (4 * 2) (le X.toNat 8) = (⟨e.t, e.h, X, e.m⟩ : Ed).row := by
  have h := row_drop e
  unfold patch
  rw [length_le, show (4 * 2 + 8 : Nat) = 16 from rfl, show (4 * 2 : Nat) = 8 from rfl, h.2.2.2.1, h.2.2.2.2, List.append_nil]
  rfl
theorem patch_written (n : UInt32) (l : List Ed) {k : Nat} (hk : k < l.length) {q : Nat} {L : List UInt8} (hq : q + L.length ≤ 16) (e' : Ed) (he : patch l[k].row q L = e'.row) :
    patch (inputB n l ++ l.flatMap Ed.row) (12 + 16 * k + q) L = inputB n (l.set k e') ++ (l.set k e').flatMap Ed.row := by
  have h1 : l.flatMap Ed.row = (l.take k).flatMap Ed.row ++ (l[k].row ++ (l.drop (k + 1)).flatMap Ed.row) := by
    rw [← List.flatMap_cons, ← List.flatMap_append, ← List.drop_eq_getElem_cons hk, List.take_append_drop]
  have h2 : (inputB n l ++ (l.take k).flatMap Ed.row).length = 12 + 16 * k := by
    rw [List.length_append, length_inputB, flatMap_len Ed.row length_row, List.length_take_of_le (by omega)]; omega
  have h3 : (l.set k e').flatMap Ed.row = (l.take k).flatMap Ed.row ++ (e'.row ++ (l.drop (k + 1)).flatMap Ed.row) := by
    rw [List.set_eq_take_append_cons_drop, if_pos hk, List.flatMap_append, List.flatMap_cons]
  have h4 : inputB n (l.set k e') = inputB n l := by unfold inputB; rw [List.length_set]
  rw [h1, ← List.append_assoc, ← h2, patch_mid _ _ _ (by rw [length_row]; exact hq), he, h3, h4, List.append_assoc]

theorem rowOk_iff {n : UInt32} {e : Ed} : rowOk n e = true ↔ e.t.toNat < n.toNat ∧ e.h.toNat < n.toNat ∧ fits n e.w = true := by
  have hr := rowE_row e
  unfold rowOk rowM
  rw [length_row, hr]
  simp only [Ed.fix, Nat.lt_irrefl, if_false]
  by_cases h1 : n.toNat ≤ e.t.toNat
  · simp [h1]; omega
  · by_cases h2 : n.toNat ≤ e.h.toNat
    · simp [h1, h2]; omega
    · by_cases hf : fits n e.w = true
      · simp [h1, h2, hf]; omega
      · simp [h1, h2, hf]
theorem bad_t {n : UInt32} {e : Ed} (h : n.toNat ≤ e.t.toNat) : ∃ x, rowM e.row n 0 = (x, some (13, 0)) :=
  ⟨_, row_t (length_row e) (by rw [rowE_row]; exact h)⟩
theorem bad_h {n : UInt32} {e : Ed} (ht : e.t.toNat < n.toNat) (h : n.toNat ≤ e.h.toNat) : ∃ x, rowM e.row n 0 = (x, some (13, 4)) :=
  ⟨_, row_h (length_row e) (by rw [rowE_row]; simp only [Ed.fix]; omega) (by rw [rowE_row]; exact h)⟩
theorem bad_w {n : UInt32} {e : Ed} (ht : e.t.toNat < n.toNat) (hh : e.h.toNat < n.toNat) (h : fits n e.w = false) : ∃ x, rowM e.row n 0 = (x, some (11, 8)) :=
  ⟨_, row_w (length_row e) (by rw [rowE_row]; simp only [Ed.fix]; omega) (by rw [rowE_row]; simp only [Ed.fix]; omega) (by rw [rowE_row]; exact h)⟩

theorem all_set {n : UInt32} {l : List Ed} {k : Nat} {e' : Ed} (h : l.all (rowOk n) = true) (he : rowOk n e' = true) : (l.set k e').all (rowOk n) = true := by
  rw [List.all_eq_true] at h ⊢
  intro x hx
  rcases List.mem_or_eq_of_mem_set hx with hx | rfl
  · exact h x hx
  · exact he
/-- an input one of whose rows is another one: that is read, if it may be. -/
theorem check_turned {n : UInt32} {l : List Ed} (h : writeOk n l = true) {k : Nat} {e' : Ed} (he : rowOk n e' = true) :
    checkM (inputB n (l.set k e') ++ (l.set k e').flatMap Ed.row) = (n.toNat, (l.set k e').map Ed.fix, none) := by
  obtain ⟨h1, h2, h3, h4⟩ := writeOk_iff.1 h
  have hw : writeOk n (l.set k e') = true := writeOk_iff.2 ⟨by rw [List.length_set]; exact h1, h2, by rw [List.length_set]; exact h3, all_set h4 he⟩
  have := check_write hw []
  rwa [List.append_nil, if_pos rfl] at this
theorem check_turned_bad {n : UInt32} {l : List Ed} (h : writeOk n l = true) {k : Nat} (hk : k < l.length) {e' : Ed} {er q : Nat} (he : ∃ x, rowM e'.row n 0 = (x, some (er, q))) :
    checkM (inputB n (l.set k e') ++ (l.set k e').flatMap Ed.row) = (0, [], some (er, 12 + 16 * k + q)) := by
  obtain ⟨h1, h2, h3, h4⟩ := writeOk_iff.1 h
  obtain ⟨x, he⟩ := he
  refine check_fault (l := l.set k e') (by rw [List.length_set]; exact h1) h2 (by rw [List.length_set]; exact h3) (k := k) (by rw [List.length_set]; exact hk) ?_ (x := x) (e := er) (q := q) ?_
  · rw [List.take_set_of_le (Nat.le_refl _)]
    rw [List.all_eq_true] at h4 ⊢
    exact fun x hx => h4 x (List.mem_of_mem_take hx)
  · rw [List.getElem_set_self]
    exact he
end Go.Proofs.YtikgobndekgjcaaDoor
