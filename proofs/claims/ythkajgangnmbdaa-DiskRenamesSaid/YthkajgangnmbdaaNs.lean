/-
  slices.Sort at []string, by the shelf.
-/
import Derived.Test.YthkajgangnmbdaaNn
import Derived.Shelf.Sort.Plain
namespace Go.Proofs
open Go.Shelf Go.RowKit
set_option maxRecDepth 100000
def Try.lays190_ren : Go.Shelf.Ren := ⟨fun | 190 => 32 | 125 => 34 | 258 => 35 | 128 => 44 | 129 => 45 | 302 => 46 | 303 => 47 | 304 => 48 | 305 => 49 | 306 => 50 | 307 => 51 | 308 => 52 | 309 => 53 | 310 => 54 | 333 => 60 | 329 => 56 | 330 => 57 | 334 => 61 | 335 => 62 | 336 => 63 | 344 => 65 | n => n, fun | 31 => 66 | 9 => 9 | 3 => 3 | 46 => 76 | 0 => 0 | 51 => 87 | 53 => 89 | 4 => 4 | 183 => 80 | 182 => 79 | 131 => 84 | 5 => 5 | 218 => 96 | 222 => 100 | 228 => 104 | 229 => 105 | n => n, fun | n => n⟩
theorem Try.lays190 : Go.Proofs.Lays.n190 Try.prog Try.lays190_ren where
  mixed := by kernel_rfl
  f125 := Try.func34.trans (congrArg some (by kernel_rfl))
  f128 := Try.func44.trans (congrArg some (by kernel_rfl))
  f129 := Try.func45.trans (congrArg some (by kernel_rfl))
  f190 := Try.func32.trans (congrArg some (by kernel_rfl))
  f258 := Try.func35.trans (congrArg some (by kernel_rfl))
  f302 := Try.func46.trans (congrArg some (by kernel_rfl))
  f303 := Try.func47.trans (congrArg some (by kernel_rfl))
  f304 := Try.func48.trans (congrArg some (by kernel_rfl))
  f305 := Try.func49.trans (congrArg some (by kernel_rfl))
  f306 := Try.func50.trans (congrArg some (by kernel_rfl))
  f307 := Try.func51.trans (congrArg some (by kernel_rfl))
  f308 := Try.func52.trans (congrArg some (by kernel_rfl))
  f309 := Try.func53.trans (congrArg some (by kernel_rfl))
  f310 := Try.func54.trans (congrArg some (by kernel_rfl))
  f329 := Try.func56.trans (congrArg some (by kernel_rfl))
  f330 := Try.func57.trans (congrArg some (by kernel_rfl))
  f333 := Try.func60.trans (congrArg some (by kernel_rfl))
  f334 := Try.func61.trans (congrArg some (by kernel_rfl))
  f335 := Try.func62.trans (congrArg some (by kernel_rfl))
  f336 := Try.func63.trans (congrArg some (by kernel_rfl))
  f344 := Try.func65.trans (congrArg some (by kernel_rfl))
  t0 := Try.underlying0
  a0 := Try.isAgg0
  z0 := Try.sizeOf0
  v0 := Try.zeroValue0
  t3 := Try.underlying3
  a3 := Try.isAgg3
  z3 := Try.sizeOf3
  v3 := Try.zeroValue3
  t4 := Try.underlying4
  a4 := Try.isAgg4
  z4 := Try.sizeOf4
  v4 := Try.zeroValue4
  t5 := Try.underlying5
  a5 := Try.isAgg5
  z5 := Try.sizeOf5
  v5 := Try.zeroValue5
  t9 := Try.underlying9
  a9 := Try.isAgg9
  z9 := Try.sizeOf9
  v9 := Try.zeroValue9
  t31 := Try.underlying66
  a31 := Try.isAgg66
  z31 := Try.sizeOf66
  v31 := Try.zeroValue66
  t46 := Try.underlying76
  a46 := Try.isAgg76
  z46 := Try.sizeOf76
  v46 := Try.zeroValue76
  t51 := Try.underlying87
  a51 := Try.isAgg87
  z51 := Try.sizeOf87
  v51 := Try.zeroValue87
  t53 := Try.underlying89
  a53 := Try.isAgg89
  z53 := Try.sizeOf89
  v53 := Try.zeroValue89
  t131 := Try.underlying84
  a131 := Try.isAgg84
  z131 := Try.sizeOf84
  v131 := Try.zeroValue84
  t182 := Try.underlying79
  a182 := Try.isAgg79
  z182 := Try.sizeOf79
  v182 := Try.zeroValue79
  t183 := Try.underlying80
  a183 := Try.isAgg80
  z183 := Try.sizeOf80
  v183 := Try.zeroValue80
  t218 := Try.underlying96
  a218 := Try.isAgg96
  z218 := Try.sizeOf96
  v218 := Try.zeroValue96
  t222 := Try.underlying100
  a222 := Try.isAgg100
  z222 := Try.sizeOf100
  v222 := Try.zeroValue100
  t228 := Try.underlying104
  a228 := Try.isAgg104
  z228 := Try.sizeOf104
  v228 := Try.zeroValue104
  t229 := Try.underlying105
  a229 := Try.isAgg105
  z229 := Try.sizeOf105
  v229 := Try.zeroValue105
end Go.Proofs
namespace Go.Proofs.Ythkajgangnmbdaa
open Go.RowKit
set_option maxRecDepth 100000
theorem sortS : SortS := by
  intro v l B w h hn h0
  obtain ⟨A, c, rfl⟩ := OwnS.form h
  have h' := h
  obtain ⟨hl, A', c', g, off, e, hnc, hc, hA0, hA, hb, hx, hf⟩ := h'
  cases e
  have := hA (by omega)
  subst this
  have hblk : g < w.heap.size := by
    obtain ⟨u, hu⟩ := Option.isSome_iff_exists.1 (hf 0 (by omega)).1
    exact World.block_lt_of_cell? w _ hu
  have hH : Go.Sort.Holds encStr w g off l.toArray := fun j hj => by
    have hj' : j < l.length := by simpa using hj
    refine ⟨?_, (hf j (by omega)).2⟩
    rw [hx j (by omega), getElem!_pos l.toArray j hj]
    simp [strL, hj']
  refine (Any.slices_Sort_string Try.lays190 g off c l w hH hblk (by omega)).mono ?_
  rintro e w' ⟨rfl, n, os, rfl⟩
  have hp : (l.mergeSort fun x y => decide (x ≤ y)).Perm l := List.mergeSort_perm l _
  obtain ⟨d, hd⟩ : ∃ d, d = l.mergeSort fun x y => decide (x ≤ y) := ⟨_, rfl⟩
  rw [← hd] at hp ⊢
  have hdl : d.length = l.length := hp.length_eq
  have hb2 : g < (Go.Sort.putRow encStr (Go.Sort.ahead w n) g off d.toArray).heap.size := by simpa using hblk
  refine ⟨rfl, d, hp, ⟨by rw [strL_len]; omega, _, c, g, off, by rw [hdl], by omega, hc, hA0, hA, hb, fun j hj => ?_, fun j hj => ?_⟩, ?_⟩
  · have hjd : j < d.length := by omega
    rw [Go.Sort.cell?_grow _ _ _ hb2, Go.Sort.cell?_putRow encStr (Go.Sort.ahead w n) g off l.toArray d.toArray (fun i hi => hH i hi) (by simp [hdl]) j (by simpa using hjd), getElem!_pos d.toArray j (by simpa using hjd)]
    simp [strL, hjd]
  · refine ⟨?_, ?_⟩
    · by_cases hjn : j < l.length
      · rw [Go.Sort.cell?_grow _ _ _ hb2, Go.Sort.cell?_putRow encStr (Go.Sort.ahead w n) g off l.toArray d.toArray (fun i hi => hH i hi) (by simp [hdl]) j (by simpa [hdl] using hjn)]
        rfl
      · rw [Go.Sort.cell?_grow _ _ _ hb2, Go.Sort.cell?_putRow_other _ _ _ _ _ _ (.inr (.inr (by show off + d.toArray.size ≤ off + j; simp [hdl]; omega)))]
        exact (hf j hj).1
    · rw [Go.Sort.frozen?_grow _ _ _ hb2, Go.Sort.frozen?_putRow]
      exact (hf j hj).2
  · show w.grownBy _ (some g)
    unfold Go.Sort.grow Go.Sort.putRow Go.Sort.mapBlock Go.Sort.ahead
    refine ⟨rfl, rfl, rfl, by simp, fun i hi hne => ?_⟩
    show (w.heap.modify g _ ++ os)[i]? = _
    rw [Array.getElem?_append_left (by simpa using hi), Array.getElem?_modify, if_neg (fun e => hne (by rw [e]))]
end Go.Proofs.Ythkajgangnmbdaa
