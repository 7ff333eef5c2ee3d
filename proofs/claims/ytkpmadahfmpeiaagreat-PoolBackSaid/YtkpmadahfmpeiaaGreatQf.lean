/-
  slices.Sort at []string, by the shelf.
-/
import Derived.Test.YtkpmadahfmpeiaaGreatNf
import Derived.Shelf.Sort.Plain
import Derived.Test.YtkpmadahfmpeiaaGreatPf2
import Derived.Test.YtkpmadahfmpeiaaGreatRec
namespace Go.Proofs
open Go.Shelf Go.RowKit
set_option maxRecDepth 100000
def Tryz.lays190_ren : Go.Shelf.Ren := ⟨fun | 190 => 94 | 125 => 137 | 258 => 136 | 128 => 169 | 129 => 170 | 302 => 160 | 303 => 161 | 304 => 162 | 305 => 163 | 306 => 164 | 307 => 165 | 308 => 166 | 309 => 167 | 310 => 168 | 333 => 194 | 329 => 195 | 330 => 196 | 334 => 197 | 335 => 198 | 336 => 199 | 344 => 208 | n => n, fun | 31 => 93 | 9 => 9 | 3 => 3 | 46 => 199 | 0 => 0 | 51 => 61 | 53 => 207 | 4 => 4 | 183 => 221 | 182 => 220 | 131 => 174 | 5 => 5 | 218 => 241 | 222 => 245 | 228 => 256 | 229 => 257 | n => n, fun | n => n⟩
theorem Tryz.lays190 : Go.Proofs.Lays.n190 Tryz.prog Tryz.lays190_ren where
  mixed := by kernel_rfl
  f125 := Tryz.func137.trans (congrArg some (by kernel_rfl))
  f128 := Tryz.func169.trans (congrArg some (by kernel_rfl))
  f129 := Tryz.func170.trans (congrArg some (by kernel_rfl))
  f190 := Tryz.func94.trans (congrArg some (by kernel_rfl))
  f258 := Tryz.func136.trans (congrArg some (by kernel_rfl))
  f302 := Tryz.func160.trans (congrArg some (by kernel_rfl))
  f303 := Tryz.func161.trans (congrArg some (by kernel_rfl))
  f304 := Tryz.func162.trans (congrArg some (by kernel_rfl))
  f305 := Tryz.func163.trans (congrArg some (by kernel_rfl))
  f306 := Tryz.func164.trans (congrArg some (by kernel_rfl))
  f307 := Tryz.func165.trans (congrArg some (by kernel_rfl))
  f308 := Tryz.func166.trans (congrArg some (by kernel_rfl))
  f309 := Tryz.func167.trans (congrArg some (by kernel_rfl))
  f310 := Tryz.func168.trans (congrArg some (by kernel_rfl))
  f329 := Tryz.func195.trans (congrArg some (by kernel_rfl))
  f330 := Tryz.func196.trans (congrArg some (by kernel_rfl))
  f333 := Tryz.func194.trans (congrArg some (by kernel_rfl))
  f334 := Tryz.func197.trans (congrArg some (by kernel_rfl))
  f335 := Tryz.func198.trans (congrArg some (by kernel_rfl))
  f336 := Tryz.func199.trans (congrArg some (by kernel_rfl))
  f344 := Tryz.func208.trans (congrArg some (by kernel_rfl))
  t0 := Tryz.underlying0
  a0 := Tryz.isAgg0
  z0 := Tryz.sizeOf0
  v0 := Tryz.zeroValue0
  t3 := Tryz.underlying3
  a3 := Tryz.isAgg3
  z3 := Tryz.sizeOf3
  v3 := Tryz.zeroValue3
  t4 := Tryz.underlying4
  a4 := Tryz.isAgg4
  z4 := Tryz.sizeOf4
  v4 := Tryz.zeroValue4
  t5 := Tryz.underlying5
  a5 := Tryz.isAgg5
  z5 := Tryz.sizeOf5
  v5 := Tryz.zeroValue5
  t9 := Tryz.underlying9
  a9 := Tryz.isAgg9
  z9 := Tryz.sizeOf9
  v9 := Tryz.zeroValue9
  t31 := Tryz.underlying93
  a31 := Tryz.isAgg93
  z31 := Tryz.sizeOf93
  v31 := Tryz.zeroValue93
  t46 := Tryz.underlying199
  a46 := Tryz.isAgg199
  z46 := Tryz.sizeOf199
  v46 := Tryz.zeroValue199
  t51 := Tryz.underlying61
  a51 := Tryz.isAgg61
  z51 := Tryz.sizeOf61
  v51 := Tryz.zeroValue61
  t53 := Tryz.underlying207
  a53 := Tryz.isAgg207
  z53 := Tryz.sizeOf207
  v53 := Tryz.zeroValue207
  t131 := Tryz.underlying174
  a131 := Tryz.isAgg174
  z131 := Tryz.sizeOf174
  v131 := Tryz.zeroValue174
  t182 := Tryz.underlying220
  a182 := Tryz.isAgg220
  z182 := Tryz.sizeOf220
  v182 := Tryz.zeroValue220
  t183 := Tryz.underlying221
  a183 := Tryz.isAgg221
  z183 := Tryz.sizeOf221
  v183 := Tryz.zeroValue221
  t218 := Tryz.underlying241
  a218 := Tryz.isAgg241
  z218 := Tryz.sizeOf241
  v218 := Tryz.zeroValue241
  t222 := Tryz.underlying245
  a222 := Tryz.isAgg245
  z222 := Tryz.sizeOf245
  v222 := Tryz.zeroValue245
  t228 := Tryz.underlying256
  a228 := Tryz.isAgg256
  z228 := Tryz.sizeOf256
  v228 := Tryz.zeroValue256
  t229 := Tryz.underlying257
  a229 := Tryz.isAgg257
  z229 := Tryz.sizeOf257
  v229 := Tryz.zeroValue257
end Go.Proofs
namespace Go.Proofs.YtkpmadahfmpeiaaGreat
open Go.RowKit
set_option maxRecDepth 100000
theorem len640 (w : World) : Calls Tryz.prog 170 #[.int .u64 0] w fun e w' => e = .returned (.int .i64 0) ∧ w = w' := by
  go_enter Tryz.func170, Tryz.ntmps170
  go_wp2_with fail
  rw [show Lib.len8 0 = 0 from by decide]
  go_ret
  exact ⟨by first | rfl | kernel_rfl | (simp [wrap64]), rfl⟩
theorem bitsLen0 (w : World) : Calls Tryz.prog 137 #[.int .u64 0] w fun e w' => e = .returned (.int .i64 0) ∧ w = w' := by
  have HL := Lib.hid (len640 w)
  go_enter Tryz.func137, Tryz.ntmps137
  go_wp2_with fail
  refine HL.out.mono ?_
  rintro e w1 ⟨rfl, rfl⟩
  go_wp2_with fail
  go_ret
  exact ⟨rfl, rfl⟩
theorem insort0 (w : World) : Calls Tryz.prog 160 #[.slice none 0 0, .int .i64 0, .int .i64 0] w fun e w' => e = .returned (.tuple #[]) ∧ w = w' := by
  go_enter Tryz.func160, Tryz.ntmps160
  go_wp2_with fail
  go_loopw [6, 7] (fun i _ wr => i = .int .i64 1 ∧ wr = w) (fun _ _ _ => 0)
  case atStart => exact ⟨rfl, rfl⟩
  case round =>
    obtain ⟨rfl, rfl⟩ := hrel
    go_wp2_with fail
    go_end0
    exact ⟨rfl, rfl⟩
theorem pdq0 (w : World) : Calls Tryz.prog 136 #[.slice none 0 0, .int .i64 0, .int .i64 0, .int .i64 0] w fun e w' => e = .returned (.tuple #[]) ∧ w = w' := by
  have HI := Lib.hid (insort0 w)
  go_enter Tryz.func136, Tryz.ntmps136
  go_wp2_with fail
  go_loopw [1, 2, 3, 8, 9, 10, 11, 12, 13, 14, 15, 16, 17, 18] (fun a b _ _ _ _ _ _ _ _ _ _ _ _ wr => a = .int .i64 0 ∧ b = .int .i64 0 ∧ wr = w) (fun _ _ _ _ _ _ _ _ _ _ _ _ _ _ _ => 0)
  case atStart => exact ⟨rfl, rfl, rfl⟩
  case round =>
    obtain ⟨rfl, rfl, rfl⟩ := hrel
    go_wp2_with fail
    refine HI.out.mono ?_
    rintro e w1 ⟨rfl, rfl⟩
    go_wp2_with fail
    refine bodyPost_ret (results_none rfl _ _ _) rfl ?_
    exact ⟨rfl, rfl⟩
theorem sort0 : SortS0 := by
  intro w
  have HB := Lib.hid (bitsLen0 w)
  have HP := Lib.hid (pdq0 w)
  go_enter Tryz.func94, Tryz.ntmps94
  go_wp2_with fail
  refine HB.out.mono ?_
  rintro e w1 ⟨rfl, rfl⟩
  go_wp2_with fail
  refine HP.out.mono ?_
  rintro e w2 ⟨rfl, rfl⟩
  go_wp2_with fail
  go_end0
  exact ⟨rfl, gr_refl _ _⟩
theorem sortS1 : SortS1 := by
  intro v l B w h hn h0
  obtain ⟨A, c, rfl⟩ := OwnS.form h
  have h' := h
  obtain ⟨hl, A', c', g, off, e, hnc, hc, hA0, hA, hb, hx, hf⟩ := h'
  cases e
  have := hA (by omega)
  subst this
  have hblk : g < w.heap.size := by
    obtain ⟨u, hu⟩ := Option.isSome_iff_exists.1 (hf 0 (by omega)).1
    exact World.block_lt_of_cell? w _ hu
  have hH : Go.Sort.Holds encStr w g off l.toArray := fun j hj => by
    have hj' : j < l.length := by simpa using hj
    refine ⟨?_, (hf j (by omega)).2⟩
    rw [hx j (by omega), getElem!_pos l.toArray j hj]
    simp [strL, hj']
  refine (Any.slices_Sort_string Tryz.lays190 g off c l w hH hblk (by omega)).mono ?_
  rintro e w' ⟨rfl, n, os, rfl⟩
  have hp : (l.mergeSort fun x y => decide (x ≤ y)).Perm l := List.mergeSort_perm l _
  unfold sortN
  obtain ⟨d, hd⟩ : ∃ d, d = l.mergeSort fun x y => decide (x ≤ y) := ⟨_, rfl⟩
  rw [← hd] at hp ⊢
  have hdl : d.length = l.length := hp.length_eq
  have hb2 : g < (Go.Sort.putRow encStr (Go.Sort.ahead w n) g off d.toArray).heap.size := by simpa using hblk
  refine ⟨rfl, ⟨by rw [strL_len]; omega, _, c, g, off, by rw [hdl], by omega, hc, hA0, hA, hb, fun j hj => ?_, fun j hj => ?_⟩, ?_⟩
  · have hjd : j < d.length := by omega
    rw [Go.Sort.cell?_grow _ _ _ hb2, Go.Sort.cell?_putRow encStr (Go.Sort.ahead w n) g off l.toArray d.toArray (fun i hi => hH i hi) (by simp [hdl]) j (by simpa using hjd), getElem!_pos d.toArray j (by simpa using hjd)]
    simp [strL, hjd]
  · refine ⟨?_, ?_⟩
    · by_cases hjn : j < l.length
      · rw [Go.Sort.cell?_grow _ _ _ hb2, Go.Sort.cell?_putRow encStr (Go.Sort.ahead w n) g off l.toArray d.toArray (fun i hi => hH i hi) (by simp [hdl]) j (by simpa [hdl] using hjn)]
        rfl
      · rw [Go.Sort.cell?_grow _ _ _ hb2, Go.Sort.cell?_putRow_other _ _ _ _ _ _ (.inr (.inr (by show off + d.toArray.size ≤ off + j; simp [hdl]; omega)))]
        exact (hf j hj).1
    · rw [Go.Sort.frozen?_grow _ _ _ hb2, Go.Sort.frozen?_putRow]
      exact (hf j hj).2
  · show w.grownBy _ (some g)
    unfold Go.Sort.grow Go.Sort.putRow Go.Sort.mapBlock Go.Sort.ahead
    refine ⟨rfl, rfl, rfl, by simp, fun i hi hne => ?_⟩
    show (w.heap.modify g _ ++ os)[i]? = _
    rw [Array.getElem?_append_left (by simpa using hi), Array.getElem?_modify, if_neg (fun e => hne (by rw [e]))]
theorem sortS : SortS := ⟨sortS1, sort0⟩
end Go.Proofs.YtkpmadahfmpeiaaGreat

/- disk's Flip, where the power stays and the place is in the file. -/
namespace Go.Proofs.YtkpmadahfmpeiaaGreat
open Go.RowKit
set_option maxRecDepth 100000
set_option maxHeartbeats 400000

def flipL (l : List UInt8) (at_ : Nat) (m : UInt8) : List UInt8 := l.set at_ (l.getD at_ 0 ^^^ m)
theorem flipL_len (l : List UInt8) (p : Nat) (m : UInt8) : (flipL l p m).length = l.length := by simp [flipL]
def Dk.flip (S : Dk) (n : List UInt8) (p : Nat) (m : UInt8) : Dk := { S with fs := setF S.fs n fun f => { f with now := flipL f.now p m, lasts := flipL f.lasts p m } }
section
variable {w w' : World} {B d : Nat} {o : Own1} {S : Dk} {c : Con}
theorem DI.putNow (h : DI w B o d S c) {f : Fi} (hf : f ∈ S.fs) {k : Nat} (hk : k < f.now.length) :
    ∃ A cp g off, c.nv f.name = .slice A f.now.length cp ∧ A = some ⟨g, off, none⟩ ∧ f.now.length ≤ cp ∧ o g = some (4, f.name) ∧ w.cell? ⟨g, off + k, none⟩ = some (.int .u8 f.now[k].toNat) ∧ w.frozen? ⟨g, off + k, none⟩ = false ∧
      ∀ u : UInt8, ∃ o', DI (w.setCell ⟨g, off + k, none⟩ (.int .u8 u.toNat)) B o' d { S with fs := setF S.fs f.name fun x => { x with now := f.now.set k u } } c ∧ Ch o w o' (w.setCell ⟨g, off + k, none⟩ (.int .u8 u.toNat)) := by
  have hr := h.file f hf
  obtain ⟨A, cp, e⟩ := hr.now.rd.form
  have hn := hr.now
  rw [e] at hn
  obtain ⟨g, off, rfl, hB, _, hle, hc, hfz, hset⟩ := hn.at_ hk
  have hc0 : cp ≠ 0 := by omega
  have hbk : blk (c.nv f.name) = some g := by rw [e]; simp [blk, hc0]
  have ht : o g = some (4, f.name) := (h.tag f hf).now g hbk
  refine ⟨_, cp, g, off, e, rfl, hle, ht, hc, hfz, fun u => ?_⟩
  have hgr : w.grownBy (w.setCell ⟨g, off + k, none⟩ (.int .u8 u.toNat)) (some g) := gr_setCell _ _ _
  have hz : (w.setCell ⟨g, off + k, none⟩ (.int .u8 u.toNat)).heap.size = w.heap.size := by simp [World.setCell]
  have hfar : ∀ i, i ≠ g → (w.setCell ⟨g, off + k, none⟩ (.int .u8 u.toNat)).heap[i]? = w.heap[i]? := fun i hi => heap_far _ _ _ hi
  obtain ⟨o', c', h', ho', hc'⟩ := h.setNow hf (Nat.le_of_eq hz.symm) (fun i _ _ h4 => hfar i (fun e => h4 (by rw [e]; exact ht))) (c.nv f.name) (f.now.set k u)
    (hr.box.same (hfar _ (fun e => by have := (h.tag f hf).file; rw [e, ht] at this; cases this))) (by rw [e]; exact hset u) (fun q hq => .inl ((h.tag f hf).now q hq)) (by rw [List.length_set]; exact hr.small.2.1)
  have ec : c' = c := by
    rw [hc']
    obtain ⟨_, _, _, nv, _⟩ := c
    congr 1
    funext s
    show (if s = f.name then nv f.name else nv s) = nv s
    split
    · next e => rw [e]
    · rfl
  rw [ec] at h'
  refine ⟨o', h', ?_⟩
  refine ⟨hgr.os, hgr.tape, hgr.output, hgr.size, fun i hi h0 => hfar i (fun e => by rw [e, ht] at h0; cases h0), fun i hi h0 => by rw [ho' i hi]; exact h0⟩
theorem DI.putLasts (h : DI w B o d S c) {f : Fi} (hf : f ∈ S.fs) {k : Nat} (hk : k < f.lasts.length) :
    ∃ A cp g off, c.lv f.name = .slice A f.lasts.length cp ∧ A = some ⟨g, off, none⟩ ∧ f.lasts.length ≤ cp ∧ o g = some (5, f.name) ∧ w.cell? ⟨g, off + k, none⟩ = some (.int .u8 f.lasts[k].toNat) ∧ w.frozen? ⟨g, off + k, none⟩ = false ∧
      ∀ u : UInt8, ∃ o', DI (w.setCell ⟨g, off + k, none⟩ (.int .u8 u.toNat)) B o' d { S with fs := setF S.fs f.name fun x => { x with lasts := f.lasts.set k u } } c ∧ Ch o w o' (w.setCell ⟨g, off + k, none⟩ (.int .u8 u.toNat)) := by
  have hr := h.file f hf
  obtain ⟨A, cp, e⟩ := hr.lasts.rd.form
  have hn := hr.lasts
  rw [e] at hn
  obtain ⟨g, off, rfl, hB, _, hle, hc, hfz, hset⟩ := hn.at_ hk
  have hc0 : cp ≠ 0 := by omega
  have hbk : blk (c.lv f.name) = some g := by rw [e]; simp [blk, hc0]
  have ht : o g = some (5, f.name) := (h.tag f hf).lasts g hbk
  refine ⟨_, cp, g, off, e, rfl, hle, ht, hc, hfz, fun u => ?_⟩
  have hgr : w.grownBy (w.setCell ⟨g, off + k, none⟩ (.int .u8 u.toNat)) (some g) := gr_setCell _ _ _
  have hz : (w.setCell ⟨g, off + k, none⟩ (.int .u8 u.toNat)).heap.size = w.heap.size := by simp [World.setCell]
  have hfar : ∀ i, i ≠ g → (w.setCell ⟨g, off + k, none⟩ (.int .u8 u.toNat)).heap[i]? = w.heap[i]? := fun i hi => heap_far _ _ _ hi
  obtain ⟨o', c', h', ho', hc'⟩ := h.setLasts hf (Nat.le_of_eq hz.symm) (fun i _ _ h4 => hfar i (fun e => h4 (by rw [e]; exact ht))) (c.lv f.name) (f.lasts.set k u)
    (hr.box.same (hfar _ (fun e => by have := (h.tag f hf).file; rw [e, ht] at this; cases this))) (by rw [e]; exact hset u) (fun q hq => .inl ((h.tag f hf).lasts q hq)) (by rw [List.length_set]; exact hr.small.2.2)
  have ec : c' = c := by
    rw [hc']
    obtain ⟨_, _, _, _, lv⟩ := c
    congr 1
    funext s
    show (if s = f.name then lv f.name else lv s) = lv s
    split
    · next e => rw [e]
    · rfl
  rw [ec] at h'
  refine ⟨o', h', ?_⟩
  refine ⟨hgr.os, hgr.tape, hgr.output, hgr.size, fun i hi h0 => hfar i (fun e => by rw [e, ht] at h0; cases h0), fun i hi h0 => by rw [ho' i hi]; exact h0⟩
end
set_option maxHeartbeats 2000000 in
theorem flip_alive {w : World} {B d : Nat} {o : Own1} {S : Dk} {c : Con} (h : DI w B o d S c) (hi : S.dead = false) (n : List UInt8) (hn : n.length ≤ 1000000000) (hr : rightB n = true) {f : Fi} (hf : S.find n = some f) (p : Nat) (hp : p < f.now.length) (m : UInt8) (hm : m ≠ 0) :
    Calls Tryz.prog 51 #[.pointer (some ⟨d, 0, none⟩), .string ⟨n.toArray⟩, .int .i64 p, .int .u8 m.toNat] w fun e w' => e = .returned (.int .i64 0) ∧ DOut o w B d (S.flip n p m) w' := by
  have H := Lib.hid h
  have hlk := look_any h
  rw [hi] at hlk
  have HK := Lib.hid hlk
  have hm0 : ((m.toNat : Int) != 0) = true := by
    rw [bne_iff_ne]
    intro e
    exact hm (UInt8.toNat_inj.1 (by simpa using e))
  have HFO := Lib.hid (fun wx (hx : w.grownBy wx none) => find_ok (h.ext hx) hn hr hf)
  obtain ⟨hmem, rfl⟩ := find_some hf
  have HM := Lib.hid hmem
  have hsm := (h.file f hmem).small
  clear hlk h hf hmem
  go_enter Tryz.func51, Tryz.ntmps51
  go_wp2_with fail
  refine HK.out.mono ?_
  rintro e w1 ⟨rfl, rfl⟩
  go_wp2_with fail
  refine (HFO.out _ (gr_refl _ _)).mono ?_
  rintro e w2 ⟨rfl, g2⟩
  have h2 := H.out.ext g2
  have H2 := Lib.hid h2
  have hfc : w2.cell? ⟨c.fb f.name, 0, none⟩ = some (c.nv f.name) := (h2.file f HM.out).box.cell 0
  have hfl : w2.cell? ⟨c.fb f.name, 1, none⟩ = some (c.lv f.name) := (h2.file f HM.out).box.cell 1
  obtain ⟨A, cp, g, off, e1, rfl, hle, ht, hc, hfz, hset⟩ := h2.putNow HM.out hp
  rw [e1] at hfc
  have hpi : (p : Int) < (f.now.length : Int) := by omega
  have hdp : decide ((f.now.length : Int) ≤ (p : Int)) = false := by simp only [decide_eq_false_iff_not]; omega
  obtain ⟨u, hu⟩ : ∃ u, u = f.now[p] ^^^ m := ⟨_, rfl⟩
  have hx : bits .xor .u8 (f.now[p].toNat : Int) (m.toNat : Int) = ((u.toNat : Nat) : Int) := by
    rw [hu]
    rw [u8_xor_nat _ _ f.now[p].toNat_lt m.toNat_lt, UInt8.toNat_xor]
  obtain ⟨o3, h3, ch3⟩ := hset u
  obtain ⟨f1, hf1⟩ : ∃ f1 : Fi, f1 = { f with now := f.now.set p u } := ⟨_, rfl⟩
  have hm1 : f1 ∈ setF S.fs f.name fun x => { x with now := f.now.set p u } := by
    unfold setF
    refine List.mem_map.2 ⟨f, HM.out, ?_⟩
    rw [if_pos rfl, hf1]
  have en : f1.name = f.name := by rw [hf1]
  have el : f1.lasts = f.lasts := by rw [hf1]
  have hl1 : (w2.setCell ⟨g, off + p, none⟩ (.int .u8 u.toNat)).cell? ⟨c.fb f.name, 1, none⟩ = some (c.lv f.name) := by
    have := (h3.file f1 hm1).box.cell 1
    rw [en] at this
    exact this
  have C3 := Lib.hid ch3
  have HM1 := Lib.hid hm1
  have HX : Hid (S.flip f.name p m = { S with fs := setF (setF S.fs f.name fun x => { x with now := f.now.set p u }) f.name fun x => { x with lasts := flipL f.lasts p m } }) := by
    show _ = _
    unfold Dk.flip
    congr 1
    unfold setF
    rw [List.map_map]
    refine List.map_congr_left fun a ha => ?_
    show _ = (if (if a.name = f.name then _ else a : Fi).name = f.name then _ else _)
    by_cases hn : a.name = f.name
    · have := nodup_name H.out.names ha HM.out hn
      subst this
      simp [flipL, hp, hu]
    · simp [hn]
  have G2 := Lib.hid g2
  have HU := Lib.hid hu
  clear hu
  by_cases hpl : p < f.lasts.length
  · obtain ⟨A2, cp2, g', off', e2, rfl, hle2, ht2, hc2, hfz2, hset2⟩ := h3.putLasts hm1 (k := p) (by rw [el]; exact hpl)
    have hgl : f1.lasts[p]'(by rw [el]; exact hpl) = f.lasts[p] := by simp [el]
    rw [hgl] at hc2
    rw [en, el] at e2
    rw [el] at hle2
    rw [e2] at hl1
    have hpl2 : (p : Int) < (f.lasts.length : Int) := by omega
    obtain ⟨u2, hu2⟩ : ∃ u, u = f.lasts[p] ^^^ m := ⟨_, rfl⟩
    have hx2 : bits .xor .u8 (f.lasts[p].toNat : Int) (m.toNat : Int) = ((u2.toNat : Nat) : Int) := by
      rw [hu2, u8_xor_nat _ _ f.lasts[p].toNat_lt m.toNat_lt, UInt8.toNat_xor]
    obtain ⟨o4, h4, ch4⟩ := hset2 u2
    have hfin : Hid (S.flip f.name p m = { S with fs := setF (setF S.fs f.name fun x => { x with now := f.now.set p u }) f1.name fun x => { x with lasts := f1.lasts.set p u2 } }) := by
      show _ = _
      rw [HX.out, en, el, hu2]
      simp [flipL, hpl]
    have H4 := Lib.hid h4
    have C4 := Lib.hid ch4
    clear h2 hset h3 ch3 hm1 g2 hset2 h4 ch4 hu2
    go_wp2_with fail
    go_ret
    rw [hfin.out]
    exact ⟨rfl, o4, c, H4.out, ((Ch.ext G2.out).trans C3.out).trans C4.out⟩
  · obtain ⟨A2, cp2, e2⟩ := (h3.file f1 hm1).lasts.rd.form
    rw [en, el] at e2
    rw [e2] at hl1
    have hpl2 : (f.lasts.length : Int) ≤ (p : Int) := by omega
    have hfin : Hid (S.flip f.name p m = { S with fs := setF S.fs f.name fun x => { x with now := f.now.set p u } }) := by
      show _ = _
      unfold Dk.flip
      rw [setF_congr H.out.names HM.out (g1 := fun f => { f with now := flipL f.now p m, lasts := flipL f.lasts p m }) (g2 := fun x => { x with now := f.now.set p u }) (by simp [flipL, hp, HU.out, List.set_eq_of_length_le (Nat.le_of_not_lt hpl)])]
    have H3 := Lib.hid h3
    clear h2 hset h3 ch3 hm1 g2
    go_wp2_with fail
    go_ret
    rw [hfin.out]
    exact ⟨rfl, o3, c, H3.out, (Ch.ext G2.out).trans C3.out⟩
theorem flip_any {w : World} {B d : Nat} {o : Own1} {S : Dk} {c : Con} (h : DI w B o d S c) (hi : Idle S) (n : List UInt8) (hn : n.length ≤ 1000000000) (hr : rightB n = true) {f : Fi} (hf : S.find n = some f) (p : Nat) (hp : p < f.now.length) (m : UInt8) (hm : m ≠ 0) :
    Calls Tryz.prog 51 #[.pointer (some ⟨d, 0, none⟩), .string ⟨n.toArray⟩, .int .i64 p, .int .u8 m.toNat] w fun e w' => e = .returned (.int .i64 0) ∧ DOut o w B d (S.flip n p m) w' := flip_alive h hi.2 n hn hr hf p hp m hm
end Go.Proofs.YtkpmadahfmpeiaaGreat

/- disk's Flip, whatever it is asked. -/
namespace Go.Proofs.YtkpmadahfmpeiaaGreat
open Go.RowKit
set_option maxRecDepth 100000
set_option maxHeartbeats 400000

def FlipOut (o : Own1) (w : World) (B d : Nat) (S : Dk) (er : Nat) (e : Ending) (w' : World) : Prop := e = .returned (.int .i64 er) ∧ ∃ S' : Dk, DOut o w B d S' w' ∧ (S' = S ∨ ∃ (n : List UInt8) (p : Nat), S' = S.flip n p 1)
theorem FlipOut.same {o : Own1} {w w' : World} {B d : Nat} {S : Dk} {c : Con} {er : Nat} (h : DI w B o d S c) (g : w.grownBy w' none) : FlipOut o w B d S er (.returned (.int .i64 er)) w' := ⟨rfl, S, ⟨o, c, h.ext g, Ch.ext g⟩, .inl rfl⟩
def Dk.flipE (S : Dk) (n : List UInt8) (k : Int) : Nat := if S.dead = true then 6 else if rightB n = false ∨ k < 0 then 1 else match S.find n with
  | none => 3
  | some f => if k < (f.now.length : Int) then 0 else 1
theorem flip_all {w : World} {B d : Nat} {o : Own1} {S : Dk} {c : Con} (h : DI w B o d S c) (n : List UInt8) (hn : n.length ≤ 1000000000) {k : Int} (hk : -9223372036854775808 ≤ k ∧ k ≤ 9223372036854775807) :
    Calls Tryz.prog 51 #[.pointer (some ⟨d, 0, none⟩), .string ⟨n.toArray⟩, .int .i64 k, .int .u8 1] w (FlipOut o w B d S (S.flipE n k)) := by
  have hlk := look_any h
  cases hd : S.dead with
  | true =>
    rw [hd] at hlk
    have HK := Lib.hid hlk
    have H := Lib.hid h
    rw [show S.flipE n k = 6 from if_pos hd]
    clear hlk h hd
    go_enter Tryz.func51, Tryz.ntmps51
    go_wp2_with fail
    refine HK.out.mono ?_
    rintro e w1 ⟨rfl, rfl⟩
    go_wp2_with fail
    go_ret
    exact FlipOut.same (er := 6) H.out (gr_refl _ _)
  | false =>
    rw [hd] at hlk
    have HK := Lib.hid hlk
    have H := Lib.hid h
    by_cases hbad : rightB n = false ∨ k < 0
    · have HF := Lib.hid (find_bad d n (decide (0 ≤ k)) w hn (by
        rcases hbad with hb | hb
        · exact .inl hb
        · exact .inr (decide_eq_false (by omega))))
      rw [show S.flipE n k = 1 from by unfold Dk.flipE; rw [if_neg (by rw [hd]; simp), if_pos hbad]]
      clear hlk h hd hbad
      go_enter Tryz.func51, Tryz.ntmps51
      go_wp2_with fail
      refine HK.out.mono ?_
      rintro e w1 ⟨rfl, rfl⟩
      by_cases hk0 : k < 0
      · have hk1 : ¬ 0 ≤ k := by omega
        have hdk : decide (0 ≤ k) = false := decide_eq_false hk1
        rw [hdk] at HF
        go_wp2_with fail
        refine HF.out.mono ?_
        rintro e w2 ⟨rfl, g2⟩
        have G2 := Lib.hid g2
        clear g2 HF
        go_wp2_with fail
        go_ret
        exact FlipOut.same (er := 1) H.out G2.out
      · have hk1 : 0 ≤ k := by omega
        have hdk : decide (0 ≤ k) = true := decide_eq_true hk1
        rw [hdk] at HF
        go_wp2_with fail
        refine HF.out.mono ?_
        rintro e w2 ⟨rfl, g2⟩
        have G2 := Lib.hid g2
        clear g2 HF
        go_wp2_with fail
        go_ret
        exact FlipOut.same (er := 1) H.out G2.out
    · have hr : rightB n = true := by
        cases e : rightB n with
        | true => rfl
        | false => exact absurd (.inl e) hbad
      have hk1 : 0 ≤ k := by
        rcases Int.lt_or_le k 0 with h9 | h9
        · exact absurd (.inr h9) hbad
        · exact h9
      cases hf : S.find n with
      | none =>
        have HF := Lib.hid (find_no h hn hr hf)
        rw [show S.flipE n k = 3 from by unfold Dk.flipE; rw [if_neg (by rw [hd]; simp), if_neg hbad, hf]]
        clear hlk h hd hbad hf
        go_enter Tryz.func51, Tryz.ntmps51
        go_wp2_with fail
        refine HK.out.mono ?_
        rintro e w1 ⟨rfl, rfl⟩
        go_wp2_with fail
        refine HF.out.mono ?_
        rintro e w2 ⟨rfl, g2⟩
        have G2 := Lib.hid g2
        clear g2 HF
        go_wp2_with fail
        go_ret
        exact FlipOut.same (er := 3) H.out G2.out
      | some f =>
        obtain ⟨p, rfl⟩ : ∃ p : Nat, k = (p : Int) := ⟨k.toNat, by omega⟩
        by_cases hp : p < f.now.length
        · rw [show S.flipE n (p : Int) = 0 from by unfold Dk.flipE; rw [if_neg (by rw [hd]; simp), if_neg hbad, hf]; exact if_pos (by omega)]
          exact (flip_alive h hd n hn hr hf p hp 1 (by decide)).mono fun e w' ⟨e1, k1⟩ => ⟨e1, _, k1, .inr ⟨n, p, rfl⟩⟩
        · rw [show S.flipE n (p : Int) = 1 from by unfold Dk.flipE; rw [if_neg (by rw [hd]; simp), if_neg hbad, hf]; exact if_neg (by omega)]
          have HFO := Lib.hid (find_ok h hn hr hf)
          obtain ⟨hmem, rfl⟩ := find_some hf
          have HM := Lib.hid hmem
          clear hlk h hd hbad hf hmem
          go_enter Tryz.func51, Tryz.ntmps51
          go_wp2_with fail
          refine HK.out.mono ?_
          rintro e w1 ⟨rfl, rfl⟩
          go_wp2_with fail
          refine HFO.out.mono ?_
          rintro e w2 ⟨rfl, g2⟩
          have h2 := H.out.ext g2
          have hfc : w2.cell? ⟨c.fb f.name, 0, none⟩ = some (c.nv f.name) := (h2.file f HM.out).box.cell 0
          obtain ⟨A, cp, e1⟩ := (h2.file f HM.out).now.rd.form
          rw [e1] at hfc
          have hpi : (f.now.length : Int) ≤ (p : Int) := by omega
          have G2 := Lib.hid g2
          clear g2 HFO h2
          go_wp2_with fail
          go_ret
          exact FlipOut.same (er := 1) H.out G2.out
end Go.Proofs.YtkpmadahfmpeiaaGreat
