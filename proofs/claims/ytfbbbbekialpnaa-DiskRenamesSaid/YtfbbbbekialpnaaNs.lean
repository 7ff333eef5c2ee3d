/-
  slices.Sort at []string, by the shelf.
-/
import Derived.Test.YtfbbbbekialpnaaNn
import Derived.Shelf.Sort.Plain
import Derived.Shelf.Lay
namespace Go.Proofs
open Go.Shelf Go.RowKit
set_option maxRecDepth 100000
shelf_lay Lays.n190 Nm 190 at Try as Try.lays190
end Go.Proofs
namespace Go.Proofs.Ytfbbbbekialpnaa
open Go.RowKit
set_option maxRecDepth 100000
theorem sortS : SortS := by
  intro v l B w h hn h0
  obtain ⟨A, c, rfl⟩ := OwnS.form h
  have h' := h
  obtain ⟨hl, A', c', g, off, e, hnc, hc, hA0, hA, hb, hx, hf⟩ := h'
  cases e
  have := hA (by omega)
  subst this
  have hblk : g < w.heap.size := by
    obtain ⟨u, hu⟩ := Option.isSome_iff_exists.1 (hf 0 (by omega)).1
    exact World.block_lt_of_cell? w _ hu
  have hH : Go.Sort.Holds encStr w g off l.toArray := fun j hj => by
    have hj' : j < l.length := by simpa using hj
    refine ⟨?_, (hf j (by omega)).2⟩
    rw [hx j (by omega), getElem!_pos l.toArray j hj]
    simp [strL, hj']
  refine (Any.slices_Sort_string Try.lays190 g off c l w hH hblk (by omega)).mono ?_
  rintro e w' ⟨rfl, n, os, rfl⟩
  have hp : (l.mergeSort fun x y => decide (x ≤ y)).Perm l := List.mergeSort_perm l _
  obtain ⟨d, hd⟩ : ∃ d, d = l.mergeSort fun x y => decide (x ≤ y) := ⟨_, rfl⟩
  rw [← hd] at hp ⊢
  have hdl : d.length = l.length := hp.length_eq
  have hb2 : g < (Go.Sort.putRow encStr (Go.Sort.ahead w n) g off d.toArray).heap.size := by simpa using hblk
  refine ⟨rfl, d, hp, ⟨by rw [strL_len]; omega, _, c, g, off, by rw [hdl], by omega, hc, hA0, hA, hb, fun j hj => ?_, fun j hj => ?_⟩, ?_⟩
  · have hjd : j < d.length := by omega
    rw [Go.Sort.cell?_grow _ _ _ hb2, Go.Sort.cell?_putRow encStr (Go.Sort.ahead w n) g off l.toArray d.toArray (fun i hi => hH i hi) (by simp [hdl]) j (by simpa using hjd), getElem!_pos d.toArray j (by simpa using hjd)]
    simp [strL, hjd]
  · refine ⟨?_, ?_⟩
    · by_cases hjn : j < l.length
      · rw [Go.Sort.cell?_grow _ _ _ hb2, Go.Sort.cell?_putRow encStr (Go.Sort.ahead w n) g off l.toArray d.toArray (fun i hi => hH i hi) (by simp [hdl]) j (by simpa [hdl] using hjn)]
        rfl
      · rw [Go.Sort.cell?_grow _ _ _ hb2, Go.Sort.cell?_putRow_other _ _ _ _ _ _ (.inr (.inr (by show off + d.toArray.size ≤ off + j; simp [hdl]; omega)))]
        exact (hf j hj).1
    · rw [Go.Sort.frozen?_grow _ _ _ hb2, Go.Sort.frozen?_putRow]
      exact (hf j hj).2
  · show w.grownBy _ (some g)
    unfold Go.Sort.grow Go.Sort.putRow Go.Sort.mapBlock Go.Sort.ahead
    refine ⟨rfl, rfl, rfl, by simp, fun i hi hne => ?_⟩
    show (w.heap.modify g _ ++ os)[i]? = _
    rw [Array.getElem?_append_left (by simpa using hi), Array.getElem?_modify, if_neg (fun e => hne (by rw [e]))]
end Go.Proofs.Ytfbbbbekialpnaa
