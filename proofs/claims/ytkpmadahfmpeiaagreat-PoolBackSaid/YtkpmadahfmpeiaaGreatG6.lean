/-
  pool, any of it: the dirty frames of a file, sorted.
-/
import Derived.Test.YtkpmadahfmpeiaaGreatPgs
import Derived.Test.YtkpmadahfmpeiaaGreatG4
import Derived.Test.YtkpmadahfmpeiaaGreatInt
import Derived.Shelf.SlSortCmp.NoneTotal
import Derived.StillTactics
namespace Go.Proofs
open Go.Shelf
/- What slices.SortFunc does with rows of whole numbers. -/
def Tryz.laysI_ren : Go.Shelf.Ren := ⟨fun | 6 => 103 | 15 => 137 | 14 => 142 | 28 => 169 | 29 => 170 | 20 => 179 | 21 => 180 | 22 => 181 | 23 => 182 | 24 => 183 | 25 => 184 | 26 => 185 | 27 => 186 | 46 => 203 | 47 => 195 | 48 => 196 | 49 => 204 | 50 => 205 | 57 => 210 | n => n, fun | 22 => 64 | 24 => 3 | 25 => 178 | 3 => 3 | 39 => 199 | 0 => 0 | 53 => 61 | 55 => 207 | 4 => 4 | 46 => 221 | 45 => 220 | 50 => 174 | 5 => 5 | 9 => 9 | 66 => 241 | 70 => 245 | 76 => 256 | 77 => 257 | n => n, fun | n => n⟩
theorem Tryz.laysI : Go.Proofs.SlLaysF.n6 Tryz.prog Tryz.laysI_ren := {
  mixed := by kernel_rfl
  f6 := ⟨Tryz.f103.name, by decide, Tryz.func103.trans (congrArg some (by kernel_rfl))⟩
  f14 := ⟨Tryz.f142.name, by decide, Tryz.func142.trans (congrArg some (by kernel_rfl))⟩
  f15 := Tryz.func137.trans (congrArg some (by kernel_rfl))
  f20 := ⟨Tryz.f179.name, by decide, Tryz.func179.trans (congrArg some (by kernel_rfl))⟩
  f21 := ⟨Tryz.f180.name, by decide, Tryz.func180.trans (congrArg some (by kernel_rfl))⟩
  f22 := ⟨Tryz.f181.name, by decide, Tryz.func181.trans (congrArg some (by kernel_rfl))⟩
  f23 := ⟨Tryz.f182.name, by decide, Tryz.func182.trans (congrArg some (by kernel_rfl))⟩
  f24 := ⟨Tryz.f183.name, by decide, Tryz.func183.trans (congrArg some (by kernel_rfl))⟩
  f25 := ⟨Tryz.f184.name, by decide, Tryz.func184.trans (congrArg some (by kernel_rfl))⟩
  f26 := ⟨Tryz.f185.name, by decide, Tryz.func185.trans (congrArg some (by kernel_rfl))⟩
  f27 := ⟨Tryz.f186.name, by decide, Tryz.func186.trans (congrArg some (by kernel_rfl))⟩
  f28 := Tryz.func169.trans (congrArg some (by kernel_rfl))
  f29 := Tryz.func170.trans (congrArg some (by kernel_rfl))
  f46 := ⟨Tryz.f203.name, by decide, Tryz.func203.trans (congrArg some (by kernel_rfl))⟩
  f47 := Tryz.func195.trans (congrArg some (by kernel_rfl))
  f48 := Tryz.func196.trans (congrArg some (by kernel_rfl))
  f49 := ⟨Tryz.f204.name, by decide, Tryz.func204.trans (congrArg some (by kernel_rfl))⟩
  f50 := ⟨Tryz.f205.name, by decide, Tryz.func205.trans (congrArg some (by kernel_rfl))⟩
  f57 := ⟨Tryz.f210.name, by decide, Tryz.func210.trans (congrArg some (by kernel_rfl))⟩
  t0 := Tryz.underlying0
  a0 := Tryz.isAgg0
  z0 := Tryz.sizeOf0
  v0 := Tryz.zeroValue0
  t3 := Tryz.underlying3
  a3 := Tryz.isAgg3
  z3 := Tryz.sizeOf3
  v3 := Tryz.zeroValue3
  t4 := Tryz.underlying4
  a4 := Tryz.isAgg4
  z4 := Tryz.sizeOf4
  v4 := Tryz.zeroValue4
  t5 := Tryz.underlying5
  a5 := Tryz.isAgg5
  z5 := Tryz.sizeOf5
  v5 := Tryz.zeroValue5
  t9 := Tryz.underlying9
  a9 := Tryz.isAgg9
  z9 := Tryz.sizeOf9
  v9 := Tryz.zeroValue9
  t22 := Tryz.underlying64
  a22 := Tryz.isAgg64
  z22 := Tryz.sizeOf64
  v22 := Tryz.zeroValue64
  a24 := Tryz.isAgg3
  z24 := Tryz.sizeOf3
  t25 := Tryz.underlying178
  a25 := Tryz.isAgg178
  z25 := Tryz.sizeOf178
  v25 := Tryz.zeroValue178
  t39 := Tryz.underlying199
  a39 := Tryz.isAgg199
  z39 := Tryz.sizeOf199
  v39 := Tryz.zeroValue199
  t45 := Tryz.underlying220
  a45 := Tryz.isAgg220
  z45 := Tryz.sizeOf220
  v45 := Tryz.zeroValue220
  t46 := Tryz.underlying221
  a46 := Tryz.isAgg221
  z46 := Tryz.sizeOf221
  v46 := Tryz.zeroValue221
  t50 := Tryz.underlying174
  a50 := Tryz.isAgg174
  z50 := Tryz.sizeOf174
  v50 := Tryz.zeroValue174
  t53 := Tryz.underlying61
  a53 := Tryz.isAgg61
  z53 := Tryz.sizeOf61
  v53 := Tryz.zeroValue61
  t55 := Tryz.underlying207
  a55 := Tryz.isAgg207
  z55 := Tryz.sizeOf207
  v55 := Tryz.zeroValue207
  t66 := Tryz.underlying241
  a66 := Tryz.isAgg241
  z66 := Tryz.sizeOf241
  v66 := Tryz.zeroValue241
  t70 := Tryz.underlying245
  a70 := Tryz.isAgg245
  z70 := Tryz.sizeOf245
  v70 := Tryz.zeroValue245
  t76 := Tryz.underlying256
  a76 := Tryz.isAgg256
  z76 := Tryz.sizeOf256
  v76 := Tryz.zeroValue256
  t77 := Tryz.underlying257
  a77 := Tryz.isAgg257
  z77 := Tryz.sizeOf257
  v77 := Tryz.zeroValue257 }
theorem Tryz.laysI0 : Go.Proofs.SlLaysF0.n6 Tryz.prog Tryz.laysI_ren := {
  mixed := by kernel_rfl
  f6 := ⟨Tryz.f103.name, by decide, Tryz.func103.trans (congrArg some (by kernel_rfl))⟩
  f14 := ⟨Tryz.f142.name, by decide, Tryz.func142.trans (congrArg some (by kernel_rfl))⟩
  f15 := Tryz.func137.trans (congrArg some (by kernel_rfl))
  f20 := ⟨Tryz.f179.name, by decide, Tryz.func179.trans (congrArg some (by kernel_rfl))⟩
  f21 := ⟨Tryz.f180.name, by decide, Tryz.func180.trans (congrArg some (by kernel_rfl))⟩
  f22 := ⟨Tryz.f181.name, by decide, Tryz.func181.trans (congrArg some (by kernel_rfl))⟩
  f23 := ⟨Tryz.f182.name, by decide, Tryz.func182.trans (congrArg some (by kernel_rfl))⟩
  f24 := ⟨Tryz.f183.name, by decide, Tryz.func183.trans (congrArg some (by kernel_rfl))⟩
  f25 := ⟨Tryz.f184.name, by decide, Tryz.func184.trans (congrArg some (by kernel_rfl))⟩
  f26 := ⟨Tryz.f185.name, by decide, Tryz.func185.trans (congrArg some (by kernel_rfl))⟩
  f27 := ⟨Tryz.f186.name, by decide, Tryz.func186.trans (congrArg some (by kernel_rfl))⟩
  f28 := Tryz.func169.trans (congrArg some (by kernel_rfl))
  f29 := Tryz.func170.trans (congrArg some (by kernel_rfl))
  f46 := ⟨Tryz.f203.name, by decide, Tryz.func203.trans (congrArg some (by kernel_rfl))⟩
  f47 := Tryz.func195.trans (congrArg some (by kernel_rfl))
  f48 := Tryz.func196.trans (congrArg some (by kernel_rfl))
  f49 := ⟨Tryz.f204.name, by decide, Tryz.func204.trans (congrArg some (by kernel_rfl))⟩
  f50 := ⟨Tryz.f205.name, by decide, Tryz.func205.trans (congrArg some (by kernel_rfl))⟩
  f57 := ⟨Tryz.f210.name, by decide, Tryz.func210.trans (congrArg some (by kernel_rfl))⟩
  t0 := Tryz.underlying0
  a0 := Tryz.isAgg0
  z0 := Tryz.sizeOf0
  v0 := Tryz.zeroValue0
  t3 := Tryz.underlying3
  a3 := Tryz.isAgg3
  z3 := Tryz.sizeOf3
  v3 := Tryz.zeroValue3
  t4 := Tryz.underlying4
  a4 := Tryz.isAgg4
  z4 := Tryz.sizeOf4
  v4 := Tryz.zeroValue4
  t5 := Tryz.underlying5
  a5 := Tryz.isAgg5
  z5 := Tryz.sizeOf5
  v5 := Tryz.zeroValue5
  t9 := Tryz.underlying9
  a9 := Tryz.isAgg9
  z9 := Tryz.sizeOf9
  v9 := Tryz.zeroValue9
  t22 := Tryz.underlying64
  a22 := Tryz.isAgg64
  z22 := Tryz.sizeOf64
  v22 := Tryz.zeroValue64
  t25 := Tryz.underlying178
  a25 := Tryz.isAgg178
  z25 := Tryz.sizeOf178
  v25 := Tryz.zeroValue178
  t39 := Tryz.underlying199
  a39 := Tryz.isAgg199
  z39 := Tryz.sizeOf199
  v39 := Tryz.zeroValue199
  t45 := Tryz.underlying220
  a45 := Tryz.isAgg220
  z45 := Tryz.sizeOf220
  v45 := Tryz.zeroValue220
  t46 := Tryz.underlying221
  a46 := Tryz.isAgg221
  z46 := Tryz.sizeOf221
  v46 := Tryz.zeroValue221
  t50 := Tryz.underlying174
  a50 := Tryz.isAgg174
  z50 := Tryz.sizeOf174
  v50 := Tryz.zeroValue174
  t53 := Tryz.underlying61
  a53 := Tryz.isAgg61
  z53 := Tryz.sizeOf61
  v53 := Tryz.zeroValue61
  t55 := Tryz.underlying207
  a55 := Tryz.isAgg207
  z55 := Tryz.sizeOf207
  v55 := Tryz.zeroValue207
  t66 := Tryz.underlying241
  a66 := Tryz.isAgg241
  z66 := Tryz.sizeOf241
  v66 := Tryz.zeroValue241
  t70 := Tryz.underlying245
  a70 := Tryz.isAgg245
  z70 := Tryz.sizeOf245
  v70 := Tryz.zeroValue245
  t76 := Tryz.underlying256
  a76 := Tryz.isAgg256
  z76 := Tryz.sizeOf256
  v76 := Tryz.zeroValue256
  t77 := Tryz.underlying257
  a77 := Tryz.isAgg257
  z77 := Tryz.sizeOf257
  v77 := Tryz.zeroValue257 }
namespace YtkpmadahfmpeiaaGreat
open Go.RowKit Go.Sort Go.Shelf Go.Maps
set_option maxRecDepth 100000
set_option maxHeartbeats 400000

section
variable {α : Type} {enc : α → Value} [Inhabited α]
theorem own_holds1 {w : World} {B blk off c : Nat} {l : List α} (h : Go.Proofs.YtkpmadahfmpeiaaGreat.Own w B 1 (.slice (some ⟨blk, off, none⟩) l.length c) l.length (l.map enc)) (h0 : 0 < l.length) : Go.Sort.Holds enc w blk off l.toArray := by
  obtain ⟨hl, A, c', g, off', e, hn, hc, hA0, hA, hb, hx, hf⟩ := h
  cases e
  have := hA (by omega)
  cases this
  intro j hj
  have hj' : j < l.length := by simpa using hj
  refine ⟨?_, (hf j (by omega)).2⟩
  rw [hx j (by omega), List.getElem?_map, List.getElem?_eq_getElem hj']
  simp [hj']
theorem gr_sortWorld1 (w : World) (blk off n : Nat) (d' : Array α) (os : Array Obj) : w.grownBy (sortWorld enc w blk off n d' os) (some blk) := by
  unfold sortWorld putRow mapBlock Go.Sort.grow Go.Sort.ahead
  refine ⟨rfl, rfl, rfl, by simp, fun i hi hne => ?_⟩
  show (w.heap.modify blk _ ++ os)[i]? = _
  rw [Array.getElem?_append_left (by simpa using hi), Array.getElem?_modify, if_neg (fun e => hne (by rw [e]))]
theorem perm_of1 (l : List α) (d' : Array α) (h : PermIn 0 l.length l.toArray d') : d'.toList.Perm l ∧ d'.size = l.length := by
  obtain ⟨h1, _, h3⟩ := h
  have hs : d'.size = l.length := by simpa using h1
  refine ⟨?_, hs⟩
  have e1 : d'.extract 0 l.length = d' := by rw [← hs]; simp
  have e2 : l.toArray.extract 0 l.length = l.toArray := by simp
  rw [e1, e2] at h3
  exact h3
theorem own_sorted1 {w : World} {B blk off c : Nat} {l : List α} (h : Go.Proofs.YtkpmadahfmpeiaaGreat.Own w B 1 (.slice (some ⟨blk, off, none⟩) l.length c) l.length (l.map enc)) (h0 : 0 < l.length) (hblk : blk < w.heap.size) {d' : Array α} (hp : PermIn 0 l.length l.toArray d') (n : Nat) (os : Array Obj) :
    Go.Proofs.YtkpmadahfmpeiaaGreat.Own (sortWorld enc w blk off n d' os) B 1 (.slice (some ⟨blk, off, none⟩) l.length c) l.length (d'.toList.map enc) := by
  obtain ⟨hpm, hs⟩ := perm_of1 l d' hp
  have hH := own_holds1 h h0
  obtain ⟨hl, A, c', g, off', e, hn, hc, hA0, hA, hb, hx, hf⟩ := h
  cases e
  have := hA (by omega)
  cases this
  have hdl : d'.toList.length = l.length := by simpa using hs
  have hsz : (putRow enc (Go.Sort.ahead w n) blk off d').heap.size = w.heap.size := by simp [putRow, mapBlock, Go.Sort.ahead]
  have hH2 : Go.Sort.Holds enc (sortWorld enc w blk off n d' os) blk off d' := by
    unfold sortWorld
    exact holds_grow enc _ os blk off d' (by rw [hsz]; exact hblk) (holds_putRow enc (Go.Sort.ahead w n) blk off l.toArray d' (holds_ahead enc w n blk off _ hH) (by simpa using hs))
  refine ⟨by simp [hs], _, c, blk, off, rfl, hn, hc, hA0, fun _ => rfl, hb, fun j hj => ?_, fun j hj => ?_⟩
  · have hj' : j < d'.size := by omega
    rw [(hH2 j hj').1, List.getElem?_map, List.getElem?_eq_getElem (by simpa using hj')]
    simp [hj']
  · by_cases hj2 : j < l.length
    · have := hH2 j (by omega)
      exact ⟨by rw [this.1]; rfl, this.2⟩
    · have e1 : (sortWorld enc w blk off n d' os).cell? ⟨blk, off + j, none⟩ = w.cell? ⟨blk, off + j, none⟩ := by
        unfold sortWorld
        rw [Go.Sort.cell?_grow _ os _ (by rw [hsz]; exact hblk)]
        exact cell?_putRow_other enc (Go.Sort.ahead w n) blk off _ _ (.inr (.inr (by simp; omega)))
      have e2 : (sortWorld enc w blk off n d' os).frozen? ⟨blk, off + j, none⟩ = w.frozen? ⟨blk, off + j, none⟩ := by
        unfold sortWorld
        rw [Go.Sort.frozen?_grow _ os _ (by rw [hsz]; exact hblk)]
        exact frozen?_putRow enc (Go.Sort.ahead w n) blk off _ _
      rw [e1, e2]
      exact hf j hj
end
theorem dcmp_any {W : World} {p g bx L : Nat} {x y : Nat} {kx ky : Int} (hb : W.cell? ⟨bx, 0, none⟩ = some (.pointer (some ⟨p, 0, none⟩))) (h1 : W.cell? ⟨p, 1, none⟩ = some (.slice (some ⟨g, 0, none⟩) L L)) (hx : x < L) (hy : y < L) 
    (cx : W.cell? ⟨g, x * 7 + 2, none⟩ = some (.int .i64 kx)) (cy : W.cell? ⟨g, y * 7 + 2, none⟩ = some (.int .i64 ky)) (hkx : 0 ≤ kx ∧ kx ≤ 4611686018427387904) (hky : 0 ≤ ky ∧ ky ≤ 4611686018427387904) :
    Calls Tryz.prog 104 #[.int .i64 (x : Int), .int .i64 (y : Int), .pointer (some ⟨bx, 0, none⟩)] W fun e w' => e = .returned (.int .i64 (kx - ky)) ∧ ∃ q os', w' = grow (W.drewN q) os' := by
  have hw : IntKind.i64.wrap (kx - ky) = kx - ky := by rw [IntWalk.i64_in _ (by omega)]
  go_enter Tryz.func104, Tryz.ntmps104
  go_wp2
  go_still (by kernel_rfl)
  go_wp2
  go_ret
  exact ⟨rfl, 1, #[], by rw [grow_empty]; rfl⟩
def ixL (l : List Nat) : List Int := l.map fun (i : Nat) => (i : Int)
theorem sortI_any {wx : World} {p g bx B1 : Nat} {fr : List Fr} {v : Value} {l : List Nat} (hbx : wx.cell? ⟨bx, 0, none⟩ = some (.pointer (some ⟨p, 0, none⟩))) (hs1 : wx.cell? ⟨p, 1, none⟩ = some (.slice (some ⟨g, 0, none⟩) fr.length fr.length))
    (hfr : Blk wx g 134 (fr.flatMap Fr.enc).toArray) (hkb : ∀ f ∈ fr, f.k ≤ 4611686018427387904) (hl : ∀ i ∈ l, i < fr.length ∧ 0 ≤ kOf fr i) (hlen : l.length ≤ 1000000000)
    (h : OwnI wx B1 v (ixL l)) (hoff : p < B1 ∧ g < B1 ∧ bx < B1) :
    Calls Tryz.prog 103 #[v, .func (.func 104) #[] #[.pointer (some ⟨bx, 0, none⟩)]] wx fun e w' => e = .returned (.tuple #[]) ∧
      ∃ l' : List Nat, l'.Perm l ∧ l'.Pairwise (fun i j => kOf fr i ≤ kOf fr j) ∧ OwnI w' B1 v (ixL l') ∧ wx.grownBy w' v.ownBlock := by
  by_cases h0 : l.length = 0
  · obtain rfl := List.eq_nil_of_length_eq_zero h0
    have hh := h
    obtain ⟨_, A, c, g', off, rfl, hnc, hcm, hA0, hA, hb, hx, hf⟩ := hh
    have hs := AnyF.slices_SortFunc_none Tryz.laysI0 A c (.func (.func 104) #[] #[.pointer (some ⟨bx, 0, none⟩)]) wx
    change Calls Tryz.prog 103 _ _ _ at hs
    refine hs.mono ?_
    rintro e w' ⟨rfl, rfl⟩
    exact ⟨rfl, [], List.Perm.refl _, List.Pairwise.nil, h, gr_refl _ _⟩
  · have h1 : 0 < l.length := by omega
    obtain ⟨i0, hi0⟩ : ∃ i0, i0 ∈ l := ⟨l[0], List.getElem_mem h1⟩
    let α := { i : Nat // i < fr.length ∧ 0 ≤ kOf fr i }
    haveI : Inhabited α := ⟨⟨i0, hl i0 hi0⟩⟩
    let enc : α → Value := fun i => .int .i64 ((i.val : Nat) : Int)
    let cf : α → α → Int := fun i j => kOf fr i.val - kOf fr j.val
    obtain ⟨dl, hdl⟩ : ∃ dl : List α, dl = l.pmap (fun i hi => ⟨i, hi⟩) hl := ⟨_, rfl⟩
    have hval : dl.map (fun i : α => i.val) = l := by
      rw [hdl, List.map_pmap]
      show l.pmap (fun i _ => i) hl = l
      rw [List.pmap_eq_map]; simp
    have hdlen : dl.length = l.length := by rw [← hval, List.length_map]
    have henc : dl.map enc = intL (ixL l) := by
      rw [← hval]
      unfold intL ixL
      rw [List.map_map, List.map_map]; rfl
    have hh : Go.Proofs.YtkpmadahfmpeiaaGreat.Own wx B1 1 v dl.length (dl.map enc) := by
      rw [henc, hdlen]
      have := h
      unfold OwnI ixL at this
      rwa [List.length_map] at this
    have hh2 := hh
    obtain ⟨_, A, c, blk, off, rfl, hnc, hcm, hA0, hA, hb, hx, hf⟩ := hh
    obtain rfl := hA (by omega)
    have hblk : blk < wx.heap.size := by
      have := (hf 0 (by omega)).1
      obtain ⟨u, hu⟩ := Option.isSome_iff_exists.1 this
      exact World.block_lt_of_cell? wx _ hu
    have hB : B1 ≤ blk := hb _ rfl
    have hO : SWO (ltOf cf) :=
      { irrefl := fun x => by unfold ltOf; simp [cf]
        trans := fun x y z k1 k2 => by unfold ltOf at *; simp [cf] at *; omega
        ntrans := fun x y z k1 k2 => by unfold ltOf at *; simp [cf] at *; omega }
    have eg : ∀ args w, (callFunc 104 args).run Tryz.prog w = .ok (.enter 104 args) w := enters_of Tryz.func104 (by kernel_rfl) rfl
    have hkc : ∀ x : α, wx.cell? ⟨g, x.val * 7 + 2, none⟩ = some (.int .i64 (kOf fr x.val)) ∧ kOf fr x.val ≤ 4611686018427387904 := fun x => by
      have hxl := x.property.1
      obtain ⟨-, -, c2, -⟩ := frame_cells hfr hxl rfl
      have e : kOf fr x.val = fr[x.val].k := by unfold kOf; rw [List.getElem?_eq_getElem hxl]
      exact ⟨by rw [e]; exact c2, by rw [e]; exact hkb _ (List.getElem_mem hxl)⟩
    have hcl : CmpLays1 Tryz.prog 104 #[.pointer (some ⟨bx, 0, none⟩)] enc cf blk off dl.toArray.size wx := fun m os dk _ x y => by
      have hg := gr_sortWorld1 (enc := enc) wx blk off m dk os
      have hcell : ∀ {a : Addr} {u : Value}, wx.cell? a = some u → a.block < B1 → (sortWorld enc wx blk off m dk os).cell? a = some u := fun {a u} ha hlt => by
        rw [cell_kept hg (by rw [ha]; rfl) (fun e => by have := Option.some.inj e; omega)]; exact ha
      exact dcmp_any (hcell hbx hoff.2.2) (hcell hs1 hoff.1) x.property.1 y.property.1 (hcell (hkc x).1 hoff.2.1) (hcell (hkc y).1 hoff.2.1) ⟨x.property.2, (hkc x).2⟩ ⟨y.property.2, (hkc y).2⟩
    have hs := Any.slices_SortFunc Tryz.laysI enc (fun _ => rfl) cf hO 104 #[.pointer (some ⟨bx, 0, none⟩)] blk off c dl.toArray wx eg hcl (own_holds1 hh2 (by omega)) hblk (by simp; omega)
    change Calls Tryz.prog 103 _ _ _ at hs
    rw [show dl.toArray.size = dl.length from by simp] at hs
    refine hs.mono ?_
    rintro e w' ⟨rfl, d', n, os, hp, hso, rfl⟩
    obtain ⟨hpm, hds⟩ := perm_of1 dl d' hp
    refine ⟨rfl, d'.toList.map (fun i : α => i.val), by rw [← hval]; exact hpm.map _, ?_, ?_, gr_sortWorld1 wx blk off n d' os⟩
    · rw [List.pairwise_map, List.pairwise_iff_getElem]
      intro i j hi hj hij
      have hi' : i < d'.size := by simpa using hi
      have hj' : j < d'.size := by simpa using hj
      have hq := hso i j (Nat.zero_le _) hij (by omega)
      have ei : d'[i]! = d'.toList[i] := by simp [hi']
      have ej : d'[j]! = d'.toList[j] := by simp [hj']
      rw [ei, ej] at hq
      unfold ltOf at hq
      simp only [cf, decide_eq_false_iff_not] at hq
      omega
    · have ho := own_sorted1 hh2 (by omega) hblk hp n os
      unfold OwnI intL ixL
      rw [List.map_map, List.map_map]
      rw [List.length_map, show d'.toList.length = dl.length from by simpa using hds]
      exact ho
section
variable {w w' : World} {B d p g mb nm : Nat} {o : Own1} {P : Pl}
def dirtyTo (fr : List Fr) (n : List UInt8) (a b : Int) (j : Nat) : List Nat := (List.range j).filter fun i => match fr[i]? with
  | none => false
  | some f => dirtyF n a b f
theorem dirtyTo_succ {fr : List Fr} {n : List UInt8} {a b : Int} {j : Nat} {f : Fr} (hf : fr[j]? = some f) : dirtyTo fr n a b (j + 1) = if dirtyF n a b f = true then dirtyTo fr n a b j ++ [j] else dirtyTo fr n a b j := by
  unfold dirtyTo
  rw [List.range_succ, List.filter_append]
  by_cases h : dirtyF n a b f = true
  · rw [if_pos h]
    congr 1
    simp [hf, h]
  · rw [if_neg h]
    simp [hf, h]
theorem dirtyTo_le (fr : List Fr) (n : List UInt8) (a b : Int) (j : Nat) : (dirtyTo fr n a b j).length ≤ j := by
  unfold dirtyTo
  have := List.length_filter_le (fun i => match fr[i]? with | none => false | some f => dirtyF n a b f) (List.range j)
  simpa using this
theorem mem_dirtyTo {fr : List Fr} {n : List UInt8} {a b : Int} {j i : Nat} (h : i ∈ dirtyTo fr n a b j) : ∃ f, fr[i]? = some f ∧ dirtyF n a b f = true := by
  unfold dirtyTo at h
  rw [List.mem_filter] at h
  cases hf : fr[i]? with
  | none => rw [hf] at h; simp at h
  | some f => rw [hf] at h; exact ⟨f, rfl, h.2⟩
theorem dirtyL_uniq {fr : List Fr} {n : List UInt8} {a b : Int} (hu : ∀ (i j : Nat) (f g : Fr), fr[i]? = some f → fr[j]? = some g → f.full = true → g.full = true → f.n = g.n → f.k = g.k → i = j) {l : List Nat} (hp : l.Perm (dirtyTo fr n a b fr.length)) (hs : l.Pairwise fun i j => kOf fr i ≤ kOf fr j) : l = dirtyL fr n a b := by
  have e : dirtyTo fr n a b fr.length = dirtyIx fr n a b := rfl
  rw [e] at hp
  have hp2 : l.Perm (dirtyL fr n a b) := hp.trans (List.mergeSort_perm _ _).symm
  refine List.Perm.eq_of_pairwise (le := fun i j => kOf fr i ≤ kOf fr j) (fun i j hi hj h1 h2 => ?_) hs ?_ hp2
  · obtain ⟨f, f1, f2⟩ := mem_dirtyL.1 (hp2.mem_iff.1 hi)
    obtain ⟨g, g1, g2⟩ := mem_dirtyL.1 hj
    obtain ⟨f3, -, f4, -⟩ := dirtyF_iff.1 f2
    obtain ⟨g3, -, g4, -⟩ := dirtyF_iff.1 g2
    exact hu i j f g f1 g1 f3 g3 (f4.trans g4.symm) (by rw [kOf_some f1, kOf_some g1] at h1 h2; omega)
  · have h1 : (dirtyL fr n a b).Pairwise fun i j => decide (kOf fr i ≤ kOf fr j) = true := List.pairwise_mergeSort (fun x y z h1 h2 => by simp at h1 h2 ⊢; omega) (fun x y => by simp; omega) _
    exact h1.imp fun {i j} h => by simpa using h
theorem PoR.uniq (h : PoR w B o d p g mb P nm) : ∀ (i j : Nat) (f g : Fr), P.fr[i]? = some f → P.fr[j]? = some g → f.full = true → g.full = true → f.n = g.n → f.k = g.k → i = j := fun i j f g' hf hg h1 h2 h3 h4 => by
  obtain ⟨hi, e1⟩ := List.getElem?_eq_some_iff.1 hf
  obtain ⟨hj, e2⟩ := List.getElem?_eq_some_iff.1 hg
  have hk := okK_frame (h.bytes f (List.mem_of_getElem? hf))
  have k1 := (h.whi ⟨f.n, f.k, hk⟩ i).2 ⟨hi, by rw [e1]; exact ⟨h1, rfl, rfl⟩⟩
  have k2 := (h.whi ⟨f.n, f.k, hk⟩ j).2 ⟨hj, by rw [e2]; exact ⟨h2, h3.symm, h4.symm⟩⟩
  rw [k1] at k2
  exact Option.some.inj k2
theorem ixL_app (l : List Nat) (j : Nat) : ixL (l ++ [j]) = ixL l ++ [(j : Int)] := by unfold ixL; rw [List.map_append]; rfl
theorem ixL_len (l : List Nat) : (ixL l).length = l.length := by unfold ixL; rw [List.length_map]
theorem wp_app1I {ops : Array Oper} {rest : List Oper} {o : Oper} {a : Act} {Q : Exit → Act → World → Prop} {w : World} (r : Int) (hgd : o.guard = none) (s0 x0 : Operand)
    (ho : o.op = .call { callee := .builtin .append, args := #[s0, x0], argTypes := #[64, 64] }) {B : Nat} {v : Value} {l : List Int} (hs : a.eval s0 = v) (hown : OwnI w B v l)
    (g : Nat) (hx : a.eval x0 = .slice (some ⟨g, 0, none⟩) 1 1) (hg : g = w.heap.size) (hn : l.length ≤ 1000000000) (hB : B ≤ w.heap.size)
    (h : ∀ v' w', OwnI w' B v' (l ++ [r]) → w.grownBy w' v.ownBlock → (v'.ownBlock = v.ownBlock ∨ ∃ k, v'.ownBlock = some k ∧ w.heap.size ≤ k) → wpList Tryz.prog ops Q rest (a.put o.dst v') w') :
    wpList Tryz.prog ops Q (o :: rest) a (w.alloc (.cells #[.int .i64 r] 3)) := by
  subst hg
  exact wp_app1 w #[.int .i64 r] hgd s0 x0 _ ho B 3 _ 1 8 Tryz.underlying64 Tryz.infoI rfl (by omega) v _ _ hs hown hx rfl (int_one [r]) (by unfold maxLen; omega) (by omega) hB
    fun v' w' h1 h2 h3 => h v' w' (own_appI (m := [r]) h1) h2 h3
set_option maxHeartbeats 4000000 in
theorem dirty_any (h : PoR w B o d p g mb P nm) {n : List UInt8} {a b : Int} (ha : 0 ≤ a) (ha2 : a ≤ 4611686018427387904) :
    Calls Tryz.prog 54 #[.pointer (some ⟨p, 0, none⟩), .string ⟨n.toArray⟩, .int .i64 a, .int .i64 b] w fun e w' => (∃ v, e = .returned v ∧ OwnI w' w.heap.size v (ixL (dirtyL P.fr n a b))) ∧ w.grownBy w' none := by
  have HU := Lib.hid h.uniq
  have HF := Lib.hid h.fr
  have HB := Lib.hid h.bytes
  have HS := Lib.hid h.self
  have hl := h.lim.2.1
  have hpl := h.self.lt
  have hgl := h.fr.lt
  clear h
  obtain ⟨fr, hfr⟩ : ∃ fr, fr = P.fr := ⟨_, rfl⟩
  rw [← hfr] at HU HF HB HS hl ⊢
  clear hfr
  have HX : Hid (Blk (w.alloc (.cells #[.pointer (some ⟨p, 0, none⟩)] 29)) w.heap.size 29 #[.pointer (some ⟨p, 0, none⟩)]) := Blk.new _ _ _
  have G1 : Hid (w.grownBy (w.alloc (.cells #[.pointer (some ⟨p, 0, none⟩)] 29)) none) := gr_alloc _ _ none
  have s1 : w.cell? ⟨p, 1, none⟩ = some (.slice (some ⟨g, 0, none⟩) fr.length fr.length) := HS.out.cell 1
  have hz1 : (w.alloc (.cells #[.pointer (some ⟨p, 0, none⟩)] 29)).heap.size = w.heap.size + 1 := World.size_alloc _ _
  go_enter Tryz.func54, Tryz.ntmps54
  go_wp2_with fail
  obtain ⟨w1, hw1⟩ : ∃ w1, w1 = w.alloc (.cells #[.pointer (some ⟨p, 0, none⟩)] 29) := ⟨_, rfl⟩
  rw [← hw1] at HX G1 hz1 ⊢
  clear hw1 s1
  go_loopw [9, 10, 11, 17] (fun lv _ _ k wr => ∃ j : Nat, j ≤ fr.length ∧ k = .int .i64 j ∧ OwnI wr (w.heap.size + 1) lv (ixL (dirtyTo fr n a b j)) ∧ w1.grownBy wr none) (fun _ _ _ k _ => fr.length - (intOf k).toNat)
  case atStart => exact ⟨0, by omega, rfl, Own.nil _ _ _, gr_refl _ _⟩
  case round =>
    obtain ⟨j, hj, rfl, hown, hg⟩ := hrel
    have hgw := gr_none G1.out hg
    by_cases hlt : j < fr.length
    · have hfj : fr[j]? = some fr[j] := List.getElem?_eq_getElem hlt
      have hbx := HB.out _ (List.getElem_mem hlt)
      obtain ⟨x, hx⟩ : ∃ x, x = fr[j] := ⟨_, rfl⟩
      rw [← hx] at hfj hbx
      obtain ⟨c0, c1, c2, c3, c4, c5, c6⟩ := frame_cells (HF.out.ext hgw) hlt hx.symm
      obtain ⟨Ab, cb, hbv⟩ := hbx.rd.form
      rw [hbv] at c3
      have hkb := hbx.len.2.2.2
      have hzr := hg.size
      have hle := dirtyTo_le fr n a b j
      have HSUC := Lib.hid (dirtyTo_succ (n := n) (a := a) (b := b) hfj)
      obtain ⟨Al, cl, hlv⟩ := RdI.form (Own.rd hown)
      have HOWN := Lib.hid hown
      have HG := Lib.hid hg
      have HGW := Lib.hid hgw
      by_cases hd : dirtyF n a b x = true
      · have HS2 : Hid (ixL (dirtyTo fr n a b (j + 1)) = ixL (dirtyTo fr n a b j) ++ [(j : Int)]) := by show _ = _; rw [HSUC.out, if_pos hd, ixL_app]
        obtain ⟨d1, d2, d3, d4, d5⟩ := dirtyF_iff.1 hd
        obtain ⟨xf, xn, xk, xb, xv, xp, xd, xu⟩ := x
        simp only [] at d1 d2 d3 d4 d5 c0 c1 c2 c3 c4 c5 c6 hkb
        subst d1 d2 d3
        clear hd HSUC hfj hx hbx hbv hown hg hgw
        have hlen : (ixL (dirtyTo fr xn a b j)).length ≤ 1000000000 := by rw [ixL_len]; omega
        obtain ⟨ll, hll⟩ : ∃ ll, ll = ixL (dirtyTo fr xn a b j) := ⟨_, rfl⟩
        rw [← hll] at HS2 HOWN hlen hlv
        clear hll hle
        subst hlv
        have HOA : Hid (OwnI (wr.alloc (.cells #[.bool true, .string ⟨xn.toArray⟩, .int .i64 xk, .slice Ab xb.length cb, .int .i64 xp, .bool true, .bool xu] 134)) (w.heap.size + 1) (.slice Al ll.length cl) ll) := Own.alloc HOWN.out _
        go_wp2_with (at_builtin; refine wp_app1I (w := wr.alloc (.cells #[.bool true, .string ⟨xn.toArray⟩, .int .i64 xk, .slice Ab xb.length cb, .int .i64 xp, .bool true, .bool xu] 134)) (B := w.heap.size + 1) (v := .slice Al ll.length cl) (l := ll) (j : Int) rfl (.tmp 49) (.tmp 51) rfl rfl HOA.out _ rfl (World.size_alloc _ _).symm hlen (by rw [World.size_alloc]; omega) ?_; intro v6 w6 h6 g6 a6; obtain ⟨A6, c6', rfl⟩ := RdI.form (Own.rd h6); have H6 := Lib.hid h6; have G6 := Lib.hid (gr_trans (gr_none HG.out (gr_alloc _ _ none)) g6 (.inr fun q e => by have := Own.lt HOWN.out q e; omega)); clear h6 g6 a6)
        go_roundw
        case rel => exact ⟨j + 1, by omega, by go_num, by rw [HS2.out]; have h9 := H6.out; rw [show (ll ++ [(j : Int)]).length = ll.length + 1 from by simp] at h9; exact h9, G6.out⟩
        case measure => simp [intOf] <;> omega
      · have HS2 : Hid (dirtyTo fr n a b (j + 1) = dirtyTo fr n a b j) := by show _ = _; rw [HSUC.out, if_neg hd]
        have HD := Lib.hid hd
        obtain ⟨xf, xn, xk, xb, xv, xp, xd, xu⟩ := x
        simp only [] at c0 c1 c2 c3 c4 c5 c6 hkb
        clear HSUC hfj hx hbx hbv hown hg hgw hd
        obtain ⟨ll, hll⟩ : ∃ ll, ll = ixL (dirtyTo fr n a b j) := ⟨_, rfl⟩
        rw [← hll] at HOWN hlv
        have HL : Hid (OwnI wr (w.heap.size + 1) (.slice Al ll.length cl) ll → OwnI (wr.alloc (.cells #[.bool xf, .string ⟨xn.toArray⟩, .int .i64 xk, .slice Ab xb.length cb, .int .i64 xp, .bool xd, .bool xu] 134)) (w.heap.size + 1) (.slice Al ll.length cl) (ixL (dirtyTo fr n a b (j + 1)))) := fun h => by rw [HS2.out, ← hll]; exact h.alloc _
        clear hll hle
        subst hlv
        cases xf
        · go_wp2
          go_roundw
          case rel => exact ⟨j + 1, by omega, by go_num, HL.out HOWN.out, gr_none HG.out (gr_alloc _ _ _)⟩
          case measure => simp [intOf] <;> omega
        cases xd
        · go_wp2
          go_roundw
          case rel => exact ⟨j + 1, by omega, by go_num, HL.out HOWN.out, gr_none HG.out (gr_alloc _ _ _)⟩
          case measure => simp [intOf] <;> omega
        by_cases hnm : xn = n
        · subst hnm
          by_cases h4 : a ≤ xk
          · have h5 : b ≤ xk := by
              rcases Int.lt_or_le xk b with h | h
              · exact absurd (dirtyF_iff.2 ⟨rfl, rfl, rfl, h4, h⟩) HD.out
              · exact h
            go_wp2
            go_roundw
            case rel => exact ⟨j + 1, by omega, by go_num, HL.out HOWN.out, gr_none HG.out (gr_alloc _ _ _)⟩
            case measure => simp [intOf] <;> omega
          · have h4' : xk < a := by omega
            clear h4
            go_wp2
            go_roundw
            case rel => exact ⟨j + 1, by omega, by go_num, HL.out HOWN.out, gr_none HG.out (gr_alloc _ _ _)⟩
            case measure => simp [intOf] <;> omega
        · have b1 : (xn == n) = false := by simpa using hnm
          clear hnm
          go_wp2
          go_roundw
          case rel => exact ⟨j + 1, by omega, by go_num, HL.out HOWN.out, gr_none HG.out (gr_alloc _ _ _)⟩
          case measure => simp [intOf] <;> omega
    · obtain rfl : j = fr.length := by omega
      have hbxr := (HX.out.ext hg).cell 0
      have hbx' : wr.cell? ⟨w.heap.size, 0, none⟩ = some (.pointer (some ⟨p, 0, none⟩)) := hbxr
      have hs1 : wr.cell? ⟨p, 1, none⟩ = some (.slice (some ⟨g, 0, none⟩) fr.length fr.length) := (HS.out.ext hgw).cell 1
      have HSO := Lib.hid (sortI_any (l := dirtyTo fr n a b fr.length) hbx' hs1 (HF.out.ext hgw) (fun f hf => (HB.out f hf).len.2.2.2.2) (fun i hi => by
        obtain ⟨f, f1, f2⟩ := mem_dirtyTo hi
        obtain ⟨-, -, -, f4, -⟩ := dirtyF_iff.1 f2
        exact ⟨(List.getElem?_eq_some_iff.1 f1).1, by rw [kOf_some f1]; omega⟩) (by have := dirtyTo_le fr n a b fr.length; omega) hown ⟨by omega, by omega, by omega⟩)
      have HLT := Lib.hid (Own.lt hown)
      obtain ⟨Al, cl, hlv⟩ := RdI.form (Own.rd hown)
      have HG := Lib.hid hg
      clear hbxr hbx' hs1 hown hg hgw
      obtain ⟨ll, hll⟩ : ∃ ll, ll = (ixL (dirtyTo fr n a b fr.length)).length := ⟨_, rfl⟩
      rw [← hll] at hlv
      clear hll
      subst hlv
      go_wp2_with fail
      refine HSO.out.mono ?_
      rintro e w7 ⟨rfl, l', hp, hs, ho, g7⟩
      have e7 := dirtyL_uniq (n := n) (a := a) (b := b) HU.out hp hs
      subst e7
      have HO := Lib.hid ho
      have G7 := Lib.hid (gr_trans (gr_none G1.out HG.out) g7 (.inr fun q e => by have := HLT.out q e; omega))
      clear hp hs ho g7
      go_wp2
      go_ret
      exact ⟨⟨_, rfl, Own.mono HO.out (by omega)⟩, G7.out⟩
end
end YtkpmadahfmpeiaaGreat
end Go.Proofs
