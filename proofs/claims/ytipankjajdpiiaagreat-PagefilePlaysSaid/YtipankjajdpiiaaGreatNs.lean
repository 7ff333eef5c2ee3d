/-
  slices.Sort at []string, by the shelf.
-/
import Derived.Test.YtipankjajdpiiaaGreatNn
import Derived.Shelf.Sort.Plain
namespace Go.Proofs
open Go.Shelf Go.RowKit
set_option maxRecDepth 100000
def Tryz.lays190_ren : Go.Shelf.Ren := ⟨fun | 190 => 91 | 125 => 117 | 258 => 116 | 128 => 142 | 129 => 143 | 302 => 133 | 303 => 134 | 304 => 135 | 305 => 136 | 306 => 137 | 307 => 138 | 308 => 139 | 309 => 140 | 310 => 141 | 333 => 155 | 329 => 156 | 330 => 157 | 334 => 158 | 335 => 159 | 336 => 160 | 344 => 164 | n => n, fun | 31 => 93 | 9 => 9 | 3 => 3 | 46 => 165 | 0 => 0 | 51 => 36 | 53 => 157 | 4 => 4 | 183 => 179 | 182 => 178 | 131 => 184 | 5 => 5 | 218 => 199 | 222 => 203 | 228 => 207 | 229 => 208 | n => n, fun | n => n⟩
theorem Tryz.lays190 : Go.Proofs.Lays.n190 Tryz.prog Tryz.lays190_ren where
  mixed := by kernel_rfl
  f125 := Tryz.func117.trans (congrArg some (by kernel_rfl))
  f128 := Tryz.func142.trans (congrArg some (by kernel_rfl))
  f129 := Tryz.func143.trans (congrArg some (by kernel_rfl))
  f190 := Tryz.func91.trans (congrArg some (by kernel_rfl))
  f258 := Tryz.func116.trans (congrArg some (by kernel_rfl))
  f302 := Tryz.func133.trans (congrArg some (by kernel_rfl))
  f303 := Tryz.func134.trans (congrArg some (by kernel_rfl))
  f304 := Tryz.func135.trans (congrArg some (by kernel_rfl))
  f305 := Tryz.func136.trans (congrArg some (by kernel_rfl))
  f306 := Tryz.func137.trans (congrArg some (by kernel_rfl))
  f307 := Tryz.func138.trans (congrArg some (by kernel_rfl))
  f308 := Tryz.func139.trans (congrArg some (by kernel_rfl))
  f309 := Tryz.func140.trans (congrArg some (by kernel_rfl))
  f310 := Tryz.func141.trans (congrArg some (by kernel_rfl))
  f329 := Tryz.func156.trans (congrArg some (by kernel_rfl))
  f330 := Tryz.func157.trans (congrArg some (by kernel_rfl))
  f333 := Tryz.func155.trans (congrArg some (by kernel_rfl))
  f334 := Tryz.func158.trans (congrArg some (by kernel_rfl))
  f335 := Tryz.func159.trans (congrArg some (by kernel_rfl))
  f336 := Tryz.func160.trans (congrArg some (by kernel_rfl))
  f344 := Tryz.func164.trans (congrArg some (by kernel_rfl))
  t0 := Tryz.underlying0
  a0 := Tryz.isAgg0
  z0 := Tryz.sizeOf0
  v0 := Tryz.zeroValue0
  t3 := Tryz.underlying3
  a3 := Tryz.isAgg3
  z3 := Tryz.sizeOf3
  v3 := Tryz.zeroValue3
  t4 := Tryz.underlying4
  a4 := Tryz.isAgg4
  z4 := Tryz.sizeOf4
  v4 := Tryz.zeroValue4
  t5 := Tryz.underlying5
  a5 := Tryz.isAgg5
  z5 := Tryz.sizeOf5
  v5 := Tryz.zeroValue5
  t9 := Tryz.underlying9
  a9 := Tryz.isAgg9
  z9 := Tryz.sizeOf9
  v9 := Tryz.zeroValue9
  t31 := Tryz.underlying93
  a31 := Tryz.isAgg93
  z31 := Tryz.sizeOf93
  v31 := Tryz.zeroValue93
  t46 := Tryz.underlying165
  a46 := Tryz.isAgg165
  z46 := Tryz.sizeOf165
  v46 := Tryz.zeroValue165
  t51 := Tryz.underlying36
  a51 := Tryz.isAgg36
  z51 := Tryz.sizeOf36
  v51 := Tryz.zeroValue36
  t53 := Tryz.underlying157
  a53 := Tryz.isAgg157
  z53 := Tryz.sizeOf157
  v53 := Tryz.zeroValue157
  t131 := Tryz.underlying184
  a131 := Tryz.isAgg184
  z131 := Tryz.sizeOf184
  v131 := Tryz.zeroValue184
  t182 := Tryz.underlying178
  a182 := Tryz.isAgg178
  z182 := Tryz.sizeOf178
  v182 := Tryz.zeroValue178
  t183 := Tryz.underlying179
  a183 := Tryz.isAgg179
  z183 := Tryz.sizeOf179
  v183 := Tryz.zeroValue179
  t218 := Tryz.underlying199
  a218 := Tryz.isAgg199
  z218 := Tryz.sizeOf199
  v218 := Tryz.zeroValue199
  t222 := Tryz.underlying203
  a222 := Tryz.isAgg203
  z222 := Tryz.sizeOf203
  v222 := Tryz.zeroValue203
  t228 := Tryz.underlying207
  a228 := Tryz.isAgg207
  z228 := Tryz.sizeOf207
  v228 := Tryz.zeroValue207
  t229 := Tryz.underlying208
  a229 := Tryz.isAgg208
  z229 := Tryz.sizeOf208
  v229 := Tryz.zeroValue208
end Go.Proofs
namespace Go.Proofs.YtipankjajdpiiaaGreat
open Go.RowKit
set_option maxRecDepth 100000
theorem len640 (w : World) : Calls Tryz.prog 143 #[.int .u64 0] w fun e w' => e = .returned (.int .i64 0) ∧ w = w' := by
  go_enter Tryz.func143, Tryz.ntmps143
  go_wp2_with fail
  rw [show Lib.len8 0 = 0 from by decide]
  go_ret
  exact ⟨by first | rfl | kernel_rfl | (simp [wrap64]), rfl⟩
theorem bitsLen0 (w : World) : Calls Tryz.prog 117 #[.int .u64 0] w fun e w' => e = .returned (.int .i64 0) ∧ w = w' := by
  have HL := Lib.hid (len640 w)
  go_enter Tryz.func117, Tryz.ntmps117
  go_wp2_with fail
  refine HL.out.mono ?_
  rintro e w1 ⟨rfl, rfl⟩
  go_wp2_with fail
  go_ret
  exact ⟨rfl, rfl⟩
theorem insort0 (w : World) : Calls Tryz.prog 133 #[.slice none 0 0, .int .i64 0, .int .i64 0] w fun e w' => e = .returned (.tuple #[]) ∧ w = w' := by
  go_enter Tryz.func133, Tryz.ntmps133
  go_wp2_with fail
  go_loopw [6, 7] (fun i _ wr => i = .int .i64 1 ∧ wr = w) (fun _ _ _ => 0)
  case atStart => exact ⟨rfl, rfl⟩
  case round =>
    obtain ⟨rfl, rfl⟩ := hrel
    go_wp2_with fail
    go_end0
    exact ⟨rfl, rfl⟩
theorem pdq0 (w : World) : Calls Tryz.prog 116 #[.slice none 0 0, .int .i64 0, .int .i64 0, .int .i64 0] w fun e w' => e = .returned (.tuple #[]) ∧ w = w' := by
  have HI := Lib.hid (insort0 w)
  go_enter Tryz.func116, Tryz.ntmps116
  go_wp2_with fail
  go_loopw [1, 2, 3, 8, 9, 10, 11, 12, 13, 14, 15, 16, 17, 18] (fun a b _ _ _ _ _ _ _ _ _ _ _ _ wr => a = .int .i64 0 ∧ b = .int .i64 0 ∧ wr = w) (fun _ _ _ _ _ _ _ _ _ _ _ _ _ _ _ => 0)
  case atStart => exact ⟨rfl, rfl, rfl⟩
  case round =>
    obtain ⟨rfl, rfl, rfl⟩ := hrel
    go_wp2_with fail
    refine HI.out.mono ?_
    rintro e w1 ⟨rfl, rfl⟩
    go_wp2_with fail
    refine bodyPost_ret (results_none rfl _ _ _) rfl ?_
    exact ⟨rfl, rfl⟩
theorem sort0 : SortS0 := by
  intro w
  have HB := Lib.hid (bitsLen0 w)
  have HP := Lib.hid (pdq0 w)
  go_enter Tryz.func91, Tryz.ntmps91
  go_wp2_with fail
  refine HB.out.mono ?_
  rintro e w1 ⟨rfl, rfl⟩
  go_wp2_with fail
  refine HP.out.mono ?_
  rintro e w2 ⟨rfl, rfl⟩
  go_wp2_with fail
  go_end0
  exact ⟨rfl, gr_refl _ _⟩
theorem sortS1 : SortS1 := by
  intro v l B w h hn h0
  obtain ⟨A, c, rfl⟩ := OwnS.form h
  have h' := h
  obtain ⟨hl, A', c', g, off, e, hnc, hc, hA0, hA, hb, hx, hf⟩ := h'
  cases e
  have := hA (by omega)
  subst this
  have hblk : g < w.heap.size := by
    obtain ⟨u, hu⟩ := Option.isSome_iff_exists.1 (hf 0 (by omega)).1
    exact World.block_lt_of_cell? w _ hu
  have hH : Go.Sort.Holds encStr w g off l.toArray := fun j hj => by
    have hj' : j < l.length := by simpa using hj
    refine ⟨?_, (hf j (by omega)).2⟩
    rw [hx j (by omega), getElem!_pos l.toArray j hj]
    simp [strL, hj']
  refine (Any.slices_Sort_string Tryz.lays190 g off c l w hH hblk (by omega)).mono ?_
  rintro e w' ⟨rfl, n, os, rfl⟩
  have hp : (l.mergeSort fun x y => decide (x ≤ y)).Perm l := List.mergeSort_perm l _
  unfold sortN
  obtain ⟨d, hd⟩ : ∃ d, d = l.mergeSort fun x y => decide (x ≤ y) := ⟨_, rfl⟩
  rw [← hd] at hp ⊢
  have hdl : d.length = l.length := hp.length_eq
  have hb2 : g < (Go.Sort.putRow encStr (Go.Sort.ahead w n) g off d.toArray).heap.size := by simpa using hblk
  refine ⟨rfl, ⟨by rw [strL_len]; omega, _, c, g, off, by rw [hdl], by omega, hc, hA0, hA, hb, fun j hj => ?_, fun j hj => ?_⟩, ?_⟩
  · have hjd : j < d.length := by omega
    rw [Go.Sort.cell?_grow _ _ _ hb2, Go.Sort.cell?_putRow encStr (Go.Sort.ahead w n) g off l.toArray d.toArray (fun i hi => hH i hi) (by simp [hdl]) j (by simpa using hjd), getElem!_pos d.toArray j (by simpa using hjd)]
    simp [strL, hjd]
  · refine ⟨?_, ?_⟩
    · by_cases hjn : j < l.length
      · rw [Go.Sort.cell?_grow _ _ _ hb2, Go.Sort.cell?_putRow encStr (Go.Sort.ahead w n) g off l.toArray d.toArray (fun i hi => hH i hi) (by simp [hdl]) j (by simpa [hdl] using hjn)]
        rfl
      · rw [Go.Sort.cell?_grow _ _ _ hb2, Go.Sort.cell?_putRow_other _ _ _ _ _ _ (.inr (.inr (by show off + d.toArray.size ≤ off + j; simp [hdl]; omega)))]
        exact (hf j hj).1
    · rw [Go.Sort.frozen?_grow _ _ _ hb2, Go.Sort.frozen?_putRow]
      exact (hf j hj).2
  · show w.grownBy _ (some g)
    unfold Go.Sort.grow Go.Sort.putRow Go.Sort.mapBlock Go.Sort.ahead
    refine ⟨rfl, rfl, rfl, by simp, fun i hi hne => ?_⟩
    show (w.heap.modify g _ ++ os)[i]? = _
    rw [Array.getElem?_append_left (by simpa using hi), Array.getElem?_modify, if_neg (fun e => hne (by rw [e]))]
theorem sortS : SortS := ⟨sortS1, sort0⟩
end Go.Proofs.YtipankjajdpiiaaGreat
