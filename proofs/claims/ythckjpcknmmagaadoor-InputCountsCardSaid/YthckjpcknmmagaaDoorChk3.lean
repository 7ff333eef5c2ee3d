/-
  the reference's Check.
-/
import Derived.Test.YthckjpcknmmagaaDoorChk2
namespace Go.Proofs.YthckjpcknmmagaaDoor
open Go.RowKit
set_option maxRecDepth 100000
set_option maxHeartbeats 400000

theorem sz_alloc (w : World) (o : Obj) : w.heap.size + 1 = (w.alloc o).heap.size := by simp
theorem le_alloc {a b : World} {B : Nat} (h : B ≤ a.heap.size) (g : a.grownBy b none) (o : Obj) : B ≤ (b.alloc o).heap.size := by have := g.size; simp; omega
theorem rowM_shift (b : List UInt8) (n : UInt32) (p : Nat) : rowM b n p = ((rowM b n 0).1, (rowM b n 0).2.map fun f => (f.1, p + f.2)) := by
  unfold rowM
  repeat' split
  all_goals simp
theorem rowM_e {b : List UInt8} {n : UInt32} {p : Nat} {x : Ed} {f : Nat × Nat} (h : rowM b n p = (x, some f)) : 1 ≤ f.1 ∧ f.1 ≤ 13 ∧ f.2 ≤ p + 16 + b.length := by
  unfold rowM at h
  repeat' split at h
  all_goals (simp at h; try (obtain ⟨_, rfl⟩ := h; first | (simp; done) | (simp; omega)))
theorem rowM_len {b : List UInt8} {n : UInt32} {p : Nat} {x : Ed} (h : rowM b n p = (x, none)) : b.length = 16 := by
  unfold rowM at h
  split at h
  · simp at h
  · split at h
    · simp at h
    · omega
theorem headM_e {b : List UInt8} {n m : Nat} {f : Nat × Nat} (h : headM b = (n, m, some f)) : 1 ≤ f.1 ∧ f.1 ≤ 13 := by
  unfold headM at h
  split at h
  · simp at h; obtain ⟨_, _, rfl⟩ := h; simp
  · repeat' split at h
    all_goals first | (simp at h; done) | (simp at h; obtain ⟨_, _, rfl⟩ := h; simp)

end Go.Proofs.YthckjpcknmmagaaDoor
