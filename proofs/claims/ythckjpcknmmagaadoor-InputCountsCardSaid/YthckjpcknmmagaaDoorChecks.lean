/-
  InputChecks, the law's own walk.
-/
import Derived.Test.YthckjpcknmmagaaDoorWorks
namespace Go.Proofs.YthckjpcknmmagaaDoor
open Go.RowKit
set_option maxRecDepth 100000
set_option maxHeartbeats 400000

/-- the four cells of an element of an owned slice of edges; a store of four cells keeps it owned. -/
theorem Own.four {w : World} {B n c : Nat} {A : Option Addr} {xs : List Value} (h : Own w B 4 (.slice A n c) n xs) {k : Nat} (hk : k < n) :
    ∃ g off, A = some ⟨g, off, none⟩ ∧ B ≤ g ∧
      (∃ u0 u1 u2 u3, w.cell? ⟨g, off + k * 4, none⟩ = some u0 ∧ w.cell? ⟨g, off + k * 4 + 1, none⟩ = some u1 ∧ w.cell? ⟨g, off + k * 4 + 2, none⟩ = some u2 ∧ w.cell? ⟨g, off + k * 4 + 3, none⟩ = some u3) ∧
      (w.frozen? ⟨g, off + k * 4, none⟩ = false ∧ w.frozen? ⟨g, off + k * 4 + 1, none⟩ = false ∧ w.frozen? ⟨g, off + k * 4 + 2, none⟩ = false ∧ w.frozen? ⟨g, off + k * 4 + 3, none⟩ = false) ∧
      ∀ x0 x1 x2 x3, ∃ ys, Own ((((w.setCell ⟨g, off + k * 4, none⟩ x0).setCell ⟨g, off + k * 4 + 1, none⟩ x1).setCell ⟨g, off + k * 4 + 2, none⟩ x2).setCell ⟨g, off + k * 4 + 3, none⟩ x3) B 4 (.slice A n c) n ys := by
  have h0 := h
  obtain ⟨hl, A', c', g, off, e, hn, hc, hA0, hA, hB, hx, hf⟩ := h
  cases e
  have hA' := hA (by omega)
  subst hA'
  have hs : ∀ j, j < 4 → ∃ u, w.cell? ⟨g, off + (k * 4 + j), none⟩ = some u := fun j hj => Option.isSome_iff_exists.1 (hf (k * 4 + j) (by omega)).1
  have hz : ∀ j, j < 4 → w.frozen? ⟨g, off + (k * 4 + j), none⟩ = false := fun j hj => (hf (k * 4 + j) (by omega)).2
  obtain ⟨u0, e0⟩ := hs 0 (by omega)
  obtain ⟨u1, e1⟩ := hs 1 (by omega)
  obtain ⟨u2, e2⟩ := hs 2 (by omega)
  obtain ⟨u3, e3⟩ := hs 3 (by omega)
  refine ⟨g, off, rfl, hB _ rfl, ⟨u0, u1, u2, u3, e0, e1, e2, e3⟩, ⟨hz 0 (by omega), hz 1 (by omega), hz 2 (by omega), hz 3 (by omega)⟩, fun x0 x1 x2 x3 => ?_⟩
  have s0 := Own.set rfl h0 (j := k * 4 + 0) (by omega) x0
  have s1 := Own.set rfl s0 (j := k * 4 + 1) (by omega) x1
  have s2 := Own.set rfl s1 (j := k * 4 + 2) (by omega) x2
  have s3 := Own.set rfl s2 (j := k * 4 + 3) (by omega) x3
  exact ⟨_, s3⟩

theorem rowsM_len (b : List UInt8) (n : UInt32) : ∀ (k p : Nat) (acc : List Ed), (rowsM b n k p acc).1.length ≤ acc.length + k
  | 0, p, acc => by unfold rowsM; split <;> simp
  | k + 1, p, acc => by
    unfold rowsM
    split
    · simp
    · have := rowsM_len b n k (p + 16) (acc ++ [‹Ed›])
      simp at this ⊢
      omega
theorem checkM_len (b : List UInt8) : (checkM b).2.1.length ≤ 16777216 := by
  unfold checkM
  split
  · simp
  · rename_i n m hh
    have h1 := head_bound hh
    have h2 := rowsM_len b (UInt32.ofNat n) m 12 []
    split
    · simp
    · rename_i l hr
      rw [hr] at h2
      simp at h2 ⊢
      omega
end Go.Proofs.YthckjpcknmmagaaDoor
