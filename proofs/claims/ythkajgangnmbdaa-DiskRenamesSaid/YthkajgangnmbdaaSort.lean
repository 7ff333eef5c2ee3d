/-
  slices.SortFunc at rows of structs, in this seat's words of memory.
-/
import Derived.Test.YthkajgangnmbdaaB
import Derived.Shelf.SlSortCmp.WholeK
import Derived.Test.YthkajgangnmbdaaLoose
import Derived.Shelf.SlSortCmp.NoneTotal
namespace Go.Proofs.Ythkajgangnmbdaa
open Go.RowKit Go.Sort Go.Shelf
set_option maxRecDepth 100000

section
variable {α : Type} {enc : α → List Value} {k : Nat}
theorem flat_len (hk : ∀ x, (enc x).length = k) (l : List α) : (l.flatMap enc).length = l.length * k := by
  induction l with
  | nil => simp
  | cons a l ih => rw [List.flatMap_cons, List.length_append, hk, ih, List.length_cons, Nat.add_mul]; omega
theorem flat_at (hk : ∀ x, (enc x).length = k) (l : List α) {i j : Nat} (hi : i < l.length) (hj : j < k) : (l.flatMap enc)[i * k + j]? = (enc l[i])[j]? := by
  induction l generalizing i with
  | nil => simp at hi
  | cons a l ih =>
    rw [List.flatMap_cons]
    cases i with
    | zero => rw [Nat.zero_mul, Nat.zero_add, List.getElem?_append_left (by rw [hk]; exact hj)]; rfl
    | succ i =>
      rw [List.getElem?_append_right (by rw [hk, Nat.add_mul]; omega), hk, show (i + 1) * k + j - k = i * k + j from by rw [Nat.add_mul]; omega]
      exact ih (by simpa using hi)
variable [Inhabited α]
theorem flatK_at (hk : ∀ x, (enc x).length = k) (l : List α) {t : Nat} (ht : t < l.length * k) : some ((flatK enc k l.toArray)[t]!) = (l.flatMap enc)[t]? := by
  have hk0 : 0 < k := by
    rcases Nat.eq_zero_or_pos k with e | e
    · subst e; simp at ht
    · exact e
  have hi : t / k < l.length := (Nat.div_lt_iff_lt_mul hk0).2 ht
  have hj : t % k < k := Nat.mod_lt _ hk0
  rw [get_flatK enc k l.toArray t (by simpa using ht)]
  have e : t / k * k + t % k = t := Nat.div_add_mod' t k
  conv => rhs; rw [← e]
  rw [flat_at hk l hi hj]
  have hx : (enc l[t / k]).length = k := hk _
  rw [List.getElem?_eq_getElem (by omega)]
  congr 1
  rw [show l.toArray[t / k]! = l[t / k] from by simp [hi]]
  rw [List.getElem!_eq_getElem?_getD, List.getElem?_eq_getElem (by omega)]
  rfl
theorem own_holds (hk : ∀ x, (enc x).length = k) {w : World} {B blk off c : Nat} {l : List α} (h : Go.Proofs.Ythkajgangnmbdaa.Own w B k (.slice (some ⟨blk, off, none⟩) l.length c) l.length (l.flatMap enc)) (h0 : 0 < l.length) : HoldsK enc k w blk off l.toArray := by
  obtain ⟨hl, A, c', g, off', e, hn, hc, hA0, hA, hb, hx, hf⟩ := h
  cases e
  have := hA (by omega)
  cases this
  intro j hj
  have hj' : j < l.length * k := by simpa [flatK] using hj
  refine ⟨?_, (hf j (Nat.lt_of_lt_of_le hj' (Nat.mul_le_mul_right k hn))).2⟩
  rw [hx j hj', ← flatK_at hk l hj']
  rfl
theorem perm_of (l : List α) (d' : Array α) (h : PermIn 0 l.length l.toArray d') : d'.toList.Perm l ∧ d'.size = l.length := by
  obtain ⟨h1, _, h3⟩ := h
  have hs : d'.size = l.length := by simpa using h1
  refine ⟨?_, hs⟩
  have e1 : d'.extract 0 l.length = d' := by rw [← hs]; simp
  have e2 : l.toArray.extract 0 l.length = l.toArray := by simp
  rw [e1, e2] at h3
  exact h3
theorem gr_sortWorld (w : World) (blk off n : Nat) (d' : Array α) (os : Array Obj) : w.grownBy (sortWorldK enc k w blk off n d' os) (some blk) := by
  unfold sortWorldK putRowK putRow mapBlock Go.Sort.grow Go.Sort.ahead
  refine ⟨rfl, rfl, rfl, by simp, fun i hi hne => ?_⟩
  show (w.heap.modify blk _ ++ os)[i]? = _
  rw [Array.getElem?_append_left (by simpa using hi), Array.getElem?_modify, if_neg (fun e => hne (by rw [e]))]
theorem own_sorted (hk : ∀ x, (enc x).length = k) {w : World} {B blk off c : Nat} {l : List α} (h : Go.Proofs.Ythkajgangnmbdaa.Own w B k (.slice (some ⟨blk, off, none⟩) l.length c) l.length (l.flatMap enc)) (h0 : 0 < l.length) (hblk : blk < w.heap.size) {d' : Array α} (hp : PermIn 0 l.length l.toArray d') (n : Nat) (os : Array Obj) :
    Go.Proofs.Ythkajgangnmbdaa.Own (sortWorldK enc k w blk off n d' os) B k (.slice (some ⟨blk, off, none⟩) l.length c) l.length (d'.toList.flatMap enc) := by
  obtain ⟨hpm, hs⟩ := perm_of l d' hp
  have hH := own_holds hk h h0
  obtain ⟨hl, A, c', g, off', e, hn, hc, hA0, hA, hb, hx, hf⟩ := h
  cases e
  have := hA (by omega)
  cases this
  have hH2 : HoldsK enc k (sortWorldK enc k w blk off n d' os) blk off d' := by
    unfold sortWorldK
    exact holdsK_grow enc k _ os blk off d' (by simpa [putRowK, putRow, mapBlock, Go.Sort.ahead] using hblk) (holdsK_putRowK enc k (Go.Sort.ahead w n) blk off l.toArray d' (holdsK_ahead enc k w n blk off _ hH) (by simpa using hs))
  have hdl : d'.toList.length = l.length := by simpa using hs
  refine ⟨by rw [flat_len hk, hdl], _, c, blk, off, rfl, hn, hc, hA0, fun _ => rfl, hb, fun j hj => ?_, fun j hj => ?_⟩
  · have hj' : j < (flatK enc k d').size := by simpa [flatK, hs] using hj
    have := (hH2 j hj').1
    rw [this]
    have e := flatK_at hk d'.toList (t := j) (by rw [hdl]; exact hj)
    simpa using e
  · by_cases hj2 : j < l.length * k
    · have hj' : j < (flatK enc k d').size := by simpa [flatK, hs] using hj2
      have := hH2 j hj'
      exact ⟨by rw [this.1]; rfl, this.2⟩
    · have e1 : (sortWorldK enc k w blk off n d' os).cell? ⟨blk, off + j, none⟩ = w.cell? ⟨blk, off + j, none⟩ := by
        unfold sortWorldK
        have hsz : (putRowK enc k (Go.Sort.ahead w n) blk off d').heap.size = w.heap.size := by simp [putRowK, putRow, mapBlock, Go.Sort.ahead]
        rw [Go.Sort.cell?_grow _ os _ (by rw [hsz]; exact hblk)]
        exact cell?_putRow_other id (Go.Sort.ahead w n) blk off _ _ (.inr (.inr (by simp [flatK, hs]; omega)))
      have e2 : (sortWorldK enc k w blk off n d' os).frozen? ⟨blk, off + j, none⟩ = w.frozen? ⟨blk, off + j, none⟩ := by
        unfold sortWorldK
        have hsz : (putRowK enc k (Go.Sort.ahead w n) blk off d').heap.size = w.heap.size := by simp [putRowK, putRow, mapBlock, Go.Sort.ahead]
        rw [Go.Sort.frozen?_grow _ os _ (by rw [hsz]; exact hblk)]
        exact frozen?_putRow id (Go.Sort.ahead w n) blk off _ _
      rw [e1, e2]
      exact hf j hj
end
end Go.Proofs.Ythkajgangnmbdaa

/- What slices.SortFunc does with rows of sectors. -/
namespace Go.Proofs
open Go.Shelf
def Try.lays6_ren : Go.Shelf.Ren := ⟨fun | 6 => 29 | 15 => 34 | 14 => 33 | 28 => 44 | 29 => 45 | 20 => 36 | 21 => 37 | 22 => 38 | 23 => 39 | 24 => 40 | 25 => 41 | 26 => 42 | 27 => 43 | 46 => 55 | 47 => 56 | 48 => 57 | 49 => 58 | 50 => 59 | 57 => 64 | n => n, fun | 22 => 61 | 24 => 64 | 25 => 71 | 3 => 3 | 39 => 76 | 0 => 0 | 53 => 87 | 55 => 89 | 4 => 4 | 46 => 80 | 45 => 79 | 50 => 84 | 5 => 5 | 9 => 9 | 66 => 96 | 70 => 100 | 76 => 104 | 77 => 105 | n => n, fun | n => n⟩
theorem Try.lays6 : Go.Proofs.SlLaysF0.n6 Try.prog Try.lays6_ren := {
  mixed := by kernel_rfl
  f6 := ⟨Try.f29.name, by decide, Try.func29.trans (congrArg some (by kernel_rfl))⟩
  f14 := ⟨Try.f33.name, by decide, Try.func33.trans (congrArg some (by kernel_rfl))⟩
  f15 := Try.func34.trans (congrArg some (by kernel_rfl))
  f20 := ⟨Try.f36.name, by decide, Try.func36.trans (congrArg some (by kernel_rfl))⟩
  f21 := ⟨Try.f37.name, by decide, Try.func37.trans (congrArg some (by kernel_rfl))⟩
  f22 := ⟨Try.f38.name, by decide, Try.func38.trans (congrArg some (by kernel_rfl))⟩
  f23 := ⟨Try.f39.name, by decide, Try.func39.trans (congrArg some (by kernel_rfl))⟩
  f24 := ⟨Try.f40.name, by decide, Try.func40.trans (congrArg some (by kernel_rfl))⟩
  f25 := ⟨Try.f41.name, by decide, Try.func41.trans (congrArg some (by kernel_rfl))⟩
  f26 := ⟨Try.f42.name, by decide, Try.func42.trans (congrArg some (by kernel_rfl))⟩
  f27 := ⟨Try.f43.name, by decide, Try.func43.trans (congrArg some (by kernel_rfl))⟩
  f28 := Try.func44.trans (congrArg some (by kernel_rfl))
  f29 := Try.func45.trans (congrArg some (by kernel_rfl))
  f46 := ⟨Try.f55.name, by decide, Try.func55.trans (congrArg some (by kernel_rfl))⟩
  f47 := Try.func56.trans (congrArg some (by kernel_rfl))
  f48 := Try.func57.trans (congrArg some (by kernel_rfl))
  f49 := ⟨Try.f58.name, by decide, Try.func58.trans (congrArg some (by kernel_rfl))⟩
  f50 := ⟨Try.f59.name, by decide, Try.func59.trans (congrArg some (by kernel_rfl))⟩
  f57 := ⟨Try.f64.name, by decide, Try.func64.trans (congrArg some (by kernel_rfl))⟩
  t0 := Try.underlying0
  a0 := Try.isAgg0
  z0 := Try.sizeOf0
  v0 := Try.zeroValue0
  t3 := Try.underlying3
  a3 := Try.isAgg3
  z3 := Try.sizeOf3
  v3 := Try.zeroValue3
  t4 := Try.underlying4
  a4 := Try.isAgg4
  z4 := Try.sizeOf4
  v4 := Try.zeroValue4
  t5 := Try.underlying5
  a5 := Try.isAgg5
  z5 := Try.sizeOf5
  v5 := Try.zeroValue5
  t9 := Try.underlying9
  a9 := Try.isAgg9
  z9 := Try.sizeOf9
  v9 := Try.zeroValue9
  t22 := Try.underlying61
  a22 := Try.isAgg61
  z22 := Try.sizeOf61
  v22 := Try.zeroValue61
  t25 := Try.underlying71
  a25 := Try.isAgg71
  z25 := Try.sizeOf71
  v25 := Try.zeroValue71
  t39 := Try.underlying76
  a39 := Try.isAgg76
  z39 := Try.sizeOf76
  v39 := Try.zeroValue76
  t45 := Try.underlying79
  a45 := Try.isAgg79
  z45 := Try.sizeOf79
  v45 := Try.zeroValue79
  t46 := Try.underlying80
  a46 := Try.isAgg80
  z46 := Try.sizeOf80
  v46 := Try.zeroValue80
  t50 := Try.underlying84
  a50 := Try.isAgg84
  z50 := Try.sizeOf84
  v50 := Try.zeroValue84
  t53 := Try.underlying87
  a53 := Try.isAgg87
  z53 := Try.sizeOf87
  v53 := Try.zeroValue87
  t55 := Try.underlying89
  a55 := Try.isAgg89
  z55 := Try.sizeOf89
  v55 := Try.zeroValue89
  t66 := Try.underlying96
  a66 := Try.isAgg96
  z66 := Try.sizeOf96
  v66 := Try.zeroValue96
  t70 := Try.underlying100
  a70 := Try.isAgg100
  z70 := Try.sizeOf100
  v70 := Try.zeroValue100
  t76 := Try.underlying104
  a76 := Try.isAgg104
  z76 := Try.sizeOf104
  v76 := Try.zeroValue104
  t77 := Try.underlying105
  a77 := Try.isAgg105
  z77 := Try.sizeOf105
  v77 := Try.zeroValue105 }
namespace Ythkajgangnmbdaa
open Go.RowKit Go.Sort Go.Shelf Go.Maps
set_option maxRecDepth 100000
theorem Try.isAggPl (w : World) : (isAgg (Try.lays6_ren.t 24)).run Try.prog w = .ok true w := by kernel_rfl
theorem Try.sizeOfPl (w : World) : (Go.sizeOf (Try.lays6_ren.t 24)).run Try.prog w = .ok 2 w := by kernel_rfl
theorem sorts_any : SortsP := by
  intro wx B v l h hlen
  have hk : ∀ x : Sec, (Sec.enc x).length = 2 := fun _ => rfl
  by_cases h0 : l.length = 0
  · obtain rfl := List.eq_nil_of_length_eq_zero h0
    have hh := h
    obtain ⟨_, A, c, g, off, rfl, hnc, hcm, hA0, hA, hb, hx, hf⟩ := hh
    have hs := AnyF.slices_SortFunc_none Try.lays6 A c (.func (.func 30) #[] #[]) wx
    change Calls Try.prog 29 _ _ _ at hs
    refine hs.mono ?_
    rintro e w' ⟨rfl, rfl⟩
    exact ⟨rfl, [], List.Perm.refl _, fun _ => List.Pairwise.nil, h, gr_refl _ _⟩
  · have h1 : 0 < l.length := by omega
    have hh := h
    obtain ⟨_, A, c, g, off, rfl, hnc, hcm, hA0, hA, hb, hx, hf⟩ := hh
    obtain rfl := hA (by omega)
    have hblk : g < wx.heap.size := by
      have := (hf 0 (by omega)).1
      obtain ⟨u, hu⟩ := Option.isSome_iff_exists.1 this
      exact World.block_lt_of_cell? wx _ hu
    have hB : B ≤ g := hb _ rfl
    have eg : ∀ args w, (callFunc 30 args).run Try.prog w = .ok (.enter 30 args) w := enters_of Try.func30 (by kernel_rfl) rfl
    have hcl : CmpLays Try.prog 30 #[] Sec.enc 2 secC g off l.toArray.size wx := fun m os dk _ x y => secCmp_any x y _
    have hs := AnyQ.slices_SortFunc Try.lays6 2 Try.isAggPl Try.sizeOfPl Sec.enc hk (fun x v hv => by simp [Sec.enc] at hv; rcases hv with rfl | rfl <;> rfl) secC swoS 30 #[] g off c l.toArray wx eg hcl (own_holds hk h h1) hblk (by simp; omega)
    change Calls Try.prog 29 _ _ _ at hs
    rw [show l.toArray.size = l.length from by simp] at hs
    refine hs.mono ?_
    rintro e w' ⟨rfl, d', n, os, hp, hso, rfl⟩
    obtain ⟨hpm, hds⟩ := perm_of l d' hp
    refine ⟨rfl, d'.toList, hpm, fun hnd => secUp_of (by rw [hds]; exact hso) (hpm.nodup_iff.2 hnd), ?_, gr_sortWorld wx g off n d' os⟩
    have ho := own_sorted hk h h1 hblk hp n os
    unfold OwnP
    rw [show d'.toList.length = l.length from by simpa using hds]
    exact ho
end Ythkajgangnmbdaa
end Go.Proofs
