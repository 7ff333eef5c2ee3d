/-
  slices.SortFunc at edges.
-/
import Derived.Test.YthckjpcknmmagaaDoorIb
import Derived.Shelf.SlSortCmp.WholeK
import Derived.Shelf.SlSortCmp.NoneTotal
namespace Go.Proofs.YthckjpcknmmagaaDoor.R
open Go.RowKit Go.Sort Go.Shelf
set_option maxRecDepth 100000

section
variable {α : Type} {enc : α → List Value} {k : Nat}
variable [Inhabited α]
theorem flatK_at (hk : ∀ x, (enc x).length = k) (l : List α) {t : Nat} (ht : t < l.length * k) : some ((flatK enc k l.toArray)[t]!) = (l.flatMap enc)[t]? := by
  have hk0 : 0 < k := by
    rcases Nat.eq_zero_or_pos k with e | e
    · subst e; simp at ht
    · exact e
  have hi : t / k < l.length := (Nat.div_lt_iff_lt_mul hk0).2 ht
  have hj : t % k < k := Nat.mod_lt _ hk0
  rw [get_flatK enc k l.toArray t (by simpa using ht)]
  have e : t / k * k + t % k = t := Nat.div_add_mod' t k
  conv => rhs; rw [← e]
  rw [flat_at hk l hi hj]
  have hx : (enc l[t / k]).length = k := hk _
  rw [List.getElem?_eq_getElem (by omega)]
  congr 1
  rw [show l.toArray[t / k]! = l[t / k] from by simp [hi]]
  rw [List.getElem!_eq_getElem?_getD, List.getElem?_eq_getElem (by omega)]
  rfl
theorem own_holds (hk : ∀ x, (enc x).length = k) {w : World} {B blk off c : Nat} {l : List α} (h : Go.Proofs.YthckjpcknmmagaaDoor.Own w B k (.slice (some ⟨blk, off, none⟩) l.length c) l.length (l.flatMap enc)) (h0 : 0 < l.length) : HoldsK enc k w blk off l.toArray := by
  obtain ⟨hl, A, c', g, off', e, hn, hc, hA0, hA, hb, hx, hf⟩ := h
  cases e
  have := hA (by omega)
  cases this
  intro j hj
  have hj' : j < l.length * k := by simpa [flatK] using hj
  refine ⟨?_, (hf j (Nat.lt_of_lt_of_le hj' (Nat.mul_le_mul_right k hn))).2⟩
  rw [hx j hj', ← flatK_at hk l hj']
  rfl
theorem perm_of (l : List α) (d' : Array α) (h : PermIn 0 l.length l.toArray d') : d'.toList.Perm l ∧ d'.size = l.length := by
  obtain ⟨h1, _, h3⟩ := h
  have hs : d'.size = l.length := by simpa using h1
  refine ⟨?_, hs⟩
  have e1 : d'.extract 0 l.length = d' := by rw [← hs]; simp
  have e2 : l.toArray.extract 0 l.length = l.toArray := by simp
  rw [e1, e2] at h3
  exact h3
theorem gr_sortWorld (w : World) (blk off n : Nat) (d' : Array α) (os : Array Obj) : w.grownBy (sortWorldK enc k w blk off n d' os) (some blk) := by
  unfold sortWorldK putRowK putRow mapBlock Go.Sort.grow Go.Sort.ahead
  refine ⟨rfl, rfl, rfl, by simp, fun i hi hne => ?_⟩
  show (w.heap.modify blk _ ++ os)[i]? = _
  rw [Array.getElem?_append_left (by simpa using hi), Array.getElem?_modify, if_neg (fun e => hne (by rw [e]))]
theorem own_sorted (hk : ∀ x, (enc x).length = k) {w : World} {B blk off c : Nat} {l : List α} (h : Go.Proofs.YthckjpcknmmagaaDoor.Own w B k (.slice (some ⟨blk, off, none⟩) l.length c) l.length (l.flatMap enc)) (h0 : 0 < l.length) (hblk : blk < w.heap.size) {d' : Array α} (hp : PermIn 0 l.length l.toArray d') (n : Nat) (os : Array Obj) :
    Go.Proofs.YthckjpcknmmagaaDoor.Own (sortWorldK enc k w blk off n d' os) B k (.slice (some ⟨blk, off, none⟩) l.length c) l.length (d'.toList.flatMap enc) := by
  obtain ⟨hpm, hs⟩ := perm_of l d' hp
  have hH := own_holds hk h h0
  obtain ⟨hl, A, c', g, off', e, hn, hc, hA0, hA, hb, hx, hf⟩ := h
  cases e
  have := hA (by omega)
  cases this
  have hH2 : HoldsK enc k (sortWorldK enc k w blk off n d' os) blk off d' := by
    unfold sortWorldK
    exact holdsK_grow enc k _ os blk off d' (by simpa [putRowK, putRow, mapBlock, Go.Sort.ahead] using hblk) (holdsK_putRowK enc k (Go.Sort.ahead w n) blk off l.toArray d' (holdsK_ahead enc k w n blk off _ hH) (by simpa using hs))
  have hdl : d'.toList.length = l.length := by simpa using hs
  refine ⟨by rw [flat_len hk, hdl], _, c, blk, off, rfl, hn, hc, hA0, fun _ => rfl, hb, fun j hj => ?_, fun j hj => ?_⟩
  · have hj' : j < (flatK enc k d').size := by simpa [flatK, hs] using hj
    have := (hH2 j hj').1
    rw [this]
    have e := flatK_at hk d'.toList (t := j) (by rw [hdl]; exact hj)
    simpa using e
  · by_cases hj2 : j < l.length * k
    · have hj' : j < (flatK enc k d').size := by simpa [flatK, hs] using hj2
      have := hH2 j hj'
      exact ⟨by rw [this.1]; rfl, this.2⟩
    · have e1 : (sortWorldK enc k w blk off n d' os).cell? ⟨blk, off + j, none⟩ = w.cell? ⟨blk, off + j, none⟩ := by
        unfold sortWorldK
        have hsz : (putRowK enc k (Go.Sort.ahead w n) blk off d').heap.size = w.heap.size := by simp [putRowK, putRow, mapBlock, Go.Sort.ahead]
        rw [Go.Sort.cell?_grow _ os _ (by rw [hsz]; exact hblk)]
        exact cell?_putRow_other id (Go.Sort.ahead w n) blk off _ _ (.inr (.inr (by simp [flatK, hs]; omega)))
      have e2 : (sortWorldK enc k w blk off n d' os).frozen? ⟨blk, off + j, none⟩ = w.frozen? ⟨blk, off + j, none⟩ := by
        unfold sortWorldK
        have hsz : (putRowK enc k (Go.Sort.ahead w n) blk off d').heap.size = w.heap.size := by simp [putRowK, putRow, mapBlock, Go.Sort.ahead]
        rw [Go.Sort.frozen?_grow _ os _ (by rw [hsz]; exact hblk)]
        exact frozen?_putRow id (Go.Sort.ahead w n) blk off _ _
      rw [e1, e2]
      exact hf j hj
end
end Go.Proofs.YthckjpcknmmagaaDoor.R

/- What slices.SortFunc does with rows of edges. -/
namespace Go.Proofs
open Go.Shelf
def Tryd.lays6_ren : Go.Shelf.Ren := ⟨fun | 6 => 30 | 15 => 44 | 14 => 43 | 28 => 62 | 29 => 63 | 20 => 54 | 21 => 55 | 22 => 56 | 23 => 57 | 24 => 58 | 25 => 59 | 26 => 60 | 27 => 61 | 46 => 68 | 47 => 69 | 48 => 70 | 49 => 71 | 50 => 72 | 57 => 73 | n => n, fun | 22 => 22 | 24 => 29 | 25 => 47 | 3 => 3 | 39 => 81 | 0 => 0 | 53 => 26 | 55 => 27 | 4 => 4 | 46 => 106 | 45 => 105 | 50 => 110 | 5 => 5 | 9 => 9 | 66 => 129 | 70 => 133 | 76 => 135 | 77 => 136 | n => n, fun | n => n⟩
theorem Tryd.lays6 : Go.Proofs.SlLaysF0.n6 Tryd.prog Tryd.lays6_ren := {
  mixed := by kernel_rfl
  f6 := ⟨Tryd.f30.name, by decide, Tryd.func30.trans (congrArg some (by kernel_rfl))⟩
  f14 := ⟨Tryd.f43.name, by decide, Tryd.func43.trans (congrArg some (by kernel_rfl))⟩
  f15 := Tryd.func44.trans (congrArg some (by kernel_rfl))
  f20 := ⟨Tryd.f54.name, by decide, Tryd.func54.trans (congrArg some (by kernel_rfl))⟩
  f21 := ⟨Tryd.f55.name, by decide, Tryd.func55.trans (congrArg some (by kernel_rfl))⟩
  f22 := ⟨Tryd.f56.name, by decide, Tryd.func56.trans (congrArg some (by kernel_rfl))⟩
  f23 := ⟨Tryd.f57.name, by decide, Tryd.func57.trans (congrArg some (by kernel_rfl))⟩
  f24 := ⟨Tryd.f58.name, by decide, Tryd.func58.trans (congrArg some (by kernel_rfl))⟩
  f25 := ⟨Tryd.f59.name, by decide, Tryd.func59.trans (congrArg some (by kernel_rfl))⟩
  f26 := ⟨Tryd.f60.name, by decide, Tryd.func60.trans (congrArg some (by kernel_rfl))⟩
  f27 := ⟨Tryd.f61.name, by decide, Tryd.func61.trans (congrArg some (by kernel_rfl))⟩
  f28 := Tryd.func62.trans (congrArg some (by kernel_rfl))
  f29 := Tryd.func63.trans (congrArg some (by kernel_rfl))
  f46 := ⟨Tryd.f68.name, by decide, Tryd.func68.trans (congrArg some (by kernel_rfl))⟩
  f47 := Tryd.func69.trans (congrArg some (by kernel_rfl))
  f48 := Tryd.func70.trans (congrArg some (by kernel_rfl))
  f49 := ⟨Tryd.f71.name, by decide, Tryd.func71.trans (congrArg some (by kernel_rfl))⟩
  f50 := ⟨Tryd.f72.name, by decide, Tryd.func72.trans (congrArg some (by kernel_rfl))⟩
  f57 := ⟨Tryd.f73.name, by decide, Tryd.func73.trans (congrArg some (by kernel_rfl))⟩
  t0 := Tryd.underlying0
  a0 := Tryd.isAgg0
  z0 := Tryd.sizeOf0
  v0 := Tryd.zeroValue0
  t3 := Tryd.underlying3
  a3 := Tryd.isAgg3
  z3 := Tryd.sizeOf3
  v3 := Tryd.zeroValue3
  t4 := Tryd.underlying4
  a4 := Tryd.isAgg4
  z4 := Tryd.sizeOf4
  v4 := Tryd.zeroValue4
  t5 := Tryd.underlying5
  a5 := Tryd.isAgg5
  z5 := Tryd.sizeOf5
  v5 := Tryd.zeroValue5
  t9 := Tryd.underlying9
  a9 := Tryd.isAgg9
  z9 := Tryd.sizeOf9
  v9 := Tryd.zeroValue9
  t22 := Tryd.underlying22
  a22 := Tryd.isAgg22
  z22 := Tryd.sizeOf22
  v22 := Tryd.zeroValue22
  t25 := Tryd.underlying47
  a25 := Tryd.isAgg47
  z25 := Tryd.sizeOf47
  v25 := Tryd.zeroValue47
  t39 := Tryd.underlying81
  a39 := Tryd.isAgg81
  z39 := Tryd.sizeOf81
  v39 := Tryd.zeroValue81
  t45 := Tryd.underlying105
  a45 := Tryd.isAgg105
  z45 := Tryd.sizeOf105
  v45 := Tryd.zeroValue105
  t46 := Tryd.underlying106
  a46 := Tryd.isAgg106
  z46 := Tryd.sizeOf106
  v46 := Tryd.zeroValue106
  t50 := Tryd.underlying110
  a50 := Tryd.isAgg110
  z50 := Tryd.sizeOf110
  v50 := Tryd.zeroValue110
  t53 := Tryd.underlying26
  a53 := Tryd.isAgg26
  z53 := Tryd.sizeOf26
  v53 := Tryd.zeroValue26
  t55 := Tryd.underlying27
  a55 := Tryd.isAgg27
  z55 := Tryd.sizeOf27
  v55 := Tryd.zeroValue27
  t66 := Tryd.underlying129
  a66 := Tryd.isAgg129
  z66 := Tryd.sizeOf129
  v66 := Tryd.zeroValue129
  t70 := Tryd.underlying133
  a70 := Tryd.isAgg133
  z70 := Tryd.sizeOf133
  v70 := Tryd.zeroValue133
  t76 := Tryd.underlying135
  a76 := Tryd.isAgg135
  z76 := Tryd.sizeOf135
  v76 := Tryd.zeroValue135
  t77 := Tryd.underlying136
  a77 := Tryd.isAgg136
  z77 := Tryd.sizeOf136
  v77 := Tryd.zeroValue136 }
namespace YthckjpcknmmagaaDoor.R
open Go.RowKit Go.Sort Go.Shelf
set_option maxRecDepth 100000
theorem Tryd.isAggEd (w : World) : (isAgg (Tryd.lays6_ren.t 24)).run Tryd.prog w = .ok true w := by kernel_rfl
theorem Tryd.sizeOfEd (w : World) : (Go.sizeOf (Tryd.lays6_ren.t 24)).run Tryd.prog w = .ok 4 w := by kernel_rfl
theorem edLt (x y : Ed) : ltOf edC x y = true ↔ kn x < kn y := by
  unfold ltOf
  rw [decide_eq_true_eq, edC_lt]
theorem edLt_no (x y : Ed) : ltOf edC x y = false ↔ kn y ≤ kn x := by
  rw [← Bool.not_eq_true, edLt]; omega
theorem swoE : SWO (ltOf edC) where
  irrefl x := by rw [edLt_no]; exact Nat.le_refl _
  trans x y z h1 h2 := by rw [edLt] at *; omega
  ntrans x y z h1 h2 := by rw [edLt_no] at *; omega
instance : Inhabited Ed := ⟨⟨0, 0, 0, 0⟩⟩
theorem risE_of {d : Array Ed} (hs : SortedIn (ltOf edC) 0 d.size d) (hn : (d.toList.map Ed.k).Nodup) : RisE d.toList := by
  unfold RisE
  rw [List.pairwise_iff_getElem]
  intro i j hi hj hij
  have h := hs i j (Nat.zero_le _) hij (by simpa using hj)
  have ei : d[i]! = d.toList[i] := by simp at hi; simp [hi]
  have ej : d[j]! = d.toList[j] := by simp at hj; simp [hj]
  rw [ei, ej, edLt_no] at h
  have hne : d.toList[i].k ≠ d.toList[j].k := by
    have h2 := List.pairwise_iff_getElem.1 hn i j (by simpa using hi) (by simpa using hj) hij
    simpa using h2
  have : kn d.toList[i] ≠ kn d.toList[j] := fun e => hne ((kn_k _ _).1 e)
  omega
theorem sortsE (wx : World) (B : Nat) (v : Value) (l : List Ed) (h : OwnE wx B v l) (hlen : l.length ≤ 1000000000) :
    Calls Tryd.prog 30 #[v, .func (.func 16) #[] #[]] wx fun e w' =>
    e = .returned (.tuple #[]) ∧ ∃ l', l'.Perm l ∧ ((l.map Ed.k).Nodup → RisE l') ∧ OwnE w' B v l' ∧ wx.grownBy w' v.ownBlock := by
  have hk : ∀ x : Ed, (Ed.enc x).length = 4 := fun _ => rfl
  by_cases h0 : l.length = 0
  · obtain rfl := List.eq_nil_of_length_eq_zero h0
    have hh := h
    obtain ⟨_, A, c, g, off, rfl, hnc, hcm, hA0, hA, hb, hx, hf⟩ := hh
    have hs := AnyF.slices_SortFunc_none Tryd.lays6 A c (.func (.func 16) #[] #[]) wx
    change Calls Tryd.prog 30 _ _ _ at hs
    refine hs.mono ?_
    rintro e w' ⟨rfl, rfl⟩
    exact ⟨rfl, [], List.Perm.refl _, fun _ => List.Pairwise.nil, h, gr_refl _ _⟩
  · have h1 : 0 < l.length := by omega
    have hh := h
    obtain ⟨_, A, c, g, off, rfl, hnc, hcm, hA0, hA, hb, hx, hf⟩ := hh
    obtain rfl := hA (by omega)
    have hblk : g < wx.heap.size := by
      have := (hf 0 (by omega)).1
      obtain ⟨u, hu⟩ := Option.isSome_iff_exists.1 this
      exact World.block_lt_of_cell? wx _ hu
    have hB : B ≤ g := hb _ rfl
    have eg : ∀ args w, (callFunc 16 args).run Tryd.prog w = .ok (.enter 16 args) w := enters_of Tryd.func16 (by kernel_rfl) rfl
    have hcl : CmpLays Tryd.prog 16 #[] Ed.enc 4 edC g off l.toArray.size wx := fun m os dk _ x y => (byEnds_any x y _).mono fun e w' h => ⟨h.1, h.2.ex⟩
    have hs := AnyQ.slices_SortFunc Tryd.lays6 4 Tryd.isAggEd Tryd.sizeOfEd Ed.enc hk (fun x v hv => by simp [Ed.enc] at hv; rcases hv with rfl | rfl | rfl | rfl <;> rfl) edC swoE 16 #[] g off c l.toArray wx eg hcl (own_holds hk h h1) hblk (by simp; omega)
    change Calls Tryd.prog 30 _ _ _ at hs
    rw [show l.toArray.size = l.length from by simp] at hs
    refine hs.mono ?_
    rintro e w' ⟨rfl, d', n, os, hp, hso, rfl⟩
    obtain ⟨hpm, hds⟩ := perm_of l d' hp
    refine ⟨rfl, d'.toList, hpm, fun hnd => risE_of (by rw [hds]; exact hso) ((hpm.map Ed.k).nodup_iff.2 hnd), ?_, gr_sortWorld wx g off n d' os⟩
    have ho := own_sorted hk h h1 hblk hp n os
    unfold OwnE OwnG
    rw [show d'.toList.length = l.length from by simpa using hds]
    exact ho
end YthckjpcknmmagaaDoor.R
end Go.Proofs
