/-
  slices.SortFunc at labels.
-/
import Derived.Test.YtfgkmimhibpceaaHadd
import Derived.Shelf.SlSortCmp.WholeK
import Derived.Shelf.SlSortCmp.NoneTotal
namespace Go.Proofs.Ytfgkmimhibpceaa
open Go.RowKit Go.Sort Go.Shelf
set_option maxRecDepth 100000

section
variable {α : Type} {enc : α → List Value} {k : Nat}
variable [Inhabited α]
theorem flatK_at (hk : ∀ x, (enc x).length = k) (l : List α) {t : Nat} (ht : t < l.length * k) : some ((flatK enc k l.toArray)[t]!) = (l.flatMap enc)[t]? := by
  have hk0 : 0 < k := by
    rcases Nat.eq_zero_or_pos k with e | e
    · subst e; simp at ht
    · exact e
  have hi : t / k < l.length := (Nat.div_lt_iff_lt_mul hk0).2 ht
  have hj : t % k < k := Nat.mod_lt _ hk0
  rw [get_flatK enc k l.toArray t (by simpa using ht)]
  have e : t / k * k + t % k = t := Nat.div_add_mod' t k
  conv => rhs; rw [← e]
  rw [flat_at hk l hi hj]
  have hx : (enc l[t / k]).length = k := hk _
  rw [List.getElem?_eq_getElem (by omega)]
  congr 1
  rw [show l.toArray[t / k]! = l[t / k] from by simp [hi]]
  rw [List.getElem!_eq_getElem?_getD, List.getElem?_eq_getElem (by omega)]
  rfl
theorem own_holds (hk : ∀ x, (enc x).length = k) {w : World} {B blk off c : Nat} {l : List α} (h : Go.Proofs.Ytfgkmimhibpceaa.Own w B k (.slice (some ⟨blk, off, none⟩) l.length c) l.length (l.flatMap enc)) (h0 : 0 < l.length) : HoldsK enc k w blk off l.toArray := by
  obtain ⟨hl, A, c', g, off', e, hn, hc, hA0, hA, hb, hx, hf⟩ := h
  cases e
  have := hA (by omega)
  cases this
  intro j hj
  have hj' : j < l.length * k := by simpa [flatK] using hj
  refine ⟨?_, (hf j (Nat.lt_of_lt_of_le hj' (Nat.mul_le_mul_right k hn))).2⟩
  rw [hx j hj', ← flatK_at hk l hj']
  rfl
theorem perm_of (l : List α) (d' : Array α) (h : PermIn 0 l.length l.toArray d') : d'.toList.Perm l ∧ d'.size = l.length := by
  obtain ⟨h1, _, h3⟩ := h
  have hs : d'.size = l.length := by simpa using h1
  refine ⟨?_, hs⟩
  have e1 : d'.extract 0 l.length = d' := by rw [← hs]; simp
  have e2 : l.toArray.extract 0 l.length = l.toArray := by simp
  rw [e1, e2] at h3
  exact h3
theorem gr_sortWorld (w : World) (blk off n : Nat) (d' : Array α) (os : Array Obj) : w.grownBy (sortWorldK enc k w blk off n d' os) (some blk) := by
  unfold sortWorldK putRowK putRow mapBlock Go.Sort.grow Go.Sort.ahead
  refine ⟨rfl, rfl, rfl, by simp, fun i hi hne => ?_⟩
  show (w.heap.modify blk _ ++ os)[i]? = _
  rw [Array.getElem?_append_left (by simpa using hi), Array.getElem?_modify, if_neg (fun e => hne (by rw [e]))]
theorem own_sorted (hk : ∀ x, (enc x).length = k) {w : World} {B blk off c : Nat} {l : List α} (h : Go.Proofs.Ytfgkmimhibpceaa.Own w B k (.slice (some ⟨blk, off, none⟩) l.length c) l.length (l.flatMap enc)) (h0 : 0 < l.length) (hblk : blk < w.heap.size) {d' : Array α} (hp : PermIn 0 l.length l.toArray d') (n : Nat) (os : Array Obj) :
    Go.Proofs.Ytfgkmimhibpceaa.Own (sortWorldK enc k w blk off n d' os) B k (.slice (some ⟨blk, off, none⟩) l.length c) l.length (d'.toList.flatMap enc) := by
  obtain ⟨hpm, hs⟩ := perm_of l d' hp
  have hH := own_holds hk h h0
  obtain ⟨hl, A, c', g, off', e, hn, hc, hA0, hA, hb, hx, hf⟩ := h
  cases e
  have := hA (by omega)
  cases this
  have hH2 : HoldsK enc k (sortWorldK enc k w blk off n d' os) blk off d' := by
    unfold sortWorldK
    exact holdsK_grow enc k _ os blk off d' (by simpa [putRowK, putRow, mapBlock, Go.Sort.ahead] using hblk) (holdsK_putRowK enc k (Go.Sort.ahead w n) blk off l.toArray d' (holdsK_ahead enc k w n blk off _ hH) (by simpa using hs))
  have hdl : d'.toList.length = l.length := by simpa using hs
  refine ⟨by rw [flat_len hk, hdl], _, c, blk, off, rfl, hn, hc, hA0, fun _ => rfl, hb, fun j hj => ?_, fun j hj => ?_⟩
  · have hj' : j < (flatK enc k d').size := by simpa [flatK, hs] using hj
    have := (hH2 j hj').1
    rw [this]
    have e := flatK_at hk d'.toList (t := j) (by rw [hdl]; exact hj)
    simpa using e
  · by_cases hj2 : j < l.length * k
    · have hj' : j < (flatK enc k d').size := by simpa [flatK, hs] using hj2
      have := hH2 j hj'
      exact ⟨by rw [this.1]; rfl, this.2⟩
    · have e1 : (sortWorldK enc k w blk off n d' os).cell? ⟨blk, off + j, none⟩ = w.cell? ⟨blk, off + j, none⟩ := by
        unfold sortWorldK
        have hsz : (putRowK enc k (Go.Sort.ahead w n) blk off d').heap.size = w.heap.size := by simp [putRowK, putRow, mapBlock, Go.Sort.ahead]
        rw [Go.Sort.cell?_grow _ os _ (by rw [hsz]; exact hblk)]
        exact cell?_putRow_other id (Go.Sort.ahead w n) blk off _ _ (.inr (.inr (by simp [flatK, hs]; omega)))
      have e2 : (sortWorldK enc k w blk off n d' os).frozen? ⟨blk, off + j, none⟩ = w.frozen? ⟨blk, off + j, none⟩ := by
        unfold sortWorldK
        have hsz : (putRowK enc k (Go.Sort.ahead w n) blk off d').heap.size = w.heap.size := by simp [putRowK, putRow, mapBlock, Go.Sort.ahead]
        rw [Go.Sort.frozen?_grow _ os _ (by rw [hsz]; exact hblk)]
        exact frozen?_putRow id (Go.Sort.ahead w n) blk off _ _
      rw [e1, e2]
      exact hf j hj
end
end Go.Proofs.Ytfgkmimhibpceaa

/- What slices.SortFunc does with rows of sectors. -/
namespace Go.Proofs
open Go.Shelf
def Try.lays6_ren : Go.Shelf.Ren := ⟨fun | 6 => 45 | 15 => 50 | 14 => 49 | 28 => 59 | 29 => 60 | 20 => 51 | 21 => 52 | 22 => 53 | 23 => 54 | 24 => 55 | 25 => 56 | 26 => 57 | 27 => 58 | 46 => 61 | 47 => 62 | 48 => 63 | 49 => 64 | 50 => 65 | 57 => 66 | n => n, fun | 22 => 31 | 24 => 39 | 25 => 65 | 3 => 3 | 39 => 83 | 0 => 0 | 53 => 22 | 55 => 37 | 4 => 4 | 46 => 86 | 45 => 85 | 50 => 90 | 5 => 5 | 9 => 9 | 66 => 94 | 70 => 98 | 76 => 100 | 77 => 101 | n => n, fun | n => n⟩
theorem Try.lays6 : Go.Proofs.SlLaysF0.n6 Try.prog Try.lays6_ren := {
  mixed := by kernel_rfl
  f6 := ⟨Try.f45.name, by decide, Try.func45.trans (congrArg some (by kernel_rfl))⟩
  f14 := ⟨Try.f49.name, by decide, Try.func49.trans (congrArg some (by kernel_rfl))⟩
  f15 := Try.func50.trans (congrArg some (by kernel_rfl))
  f20 := ⟨Try.f51.name, by decide, Try.func51.trans (congrArg some (by kernel_rfl))⟩
  f21 := ⟨Try.f52.name, by decide, Try.func52.trans (congrArg some (by kernel_rfl))⟩
  f22 := ⟨Try.f53.name, by decide, Try.func53.trans (congrArg some (by kernel_rfl))⟩
  f23 := ⟨Try.f54.name, by decide, Try.func54.trans (congrArg some (by kernel_rfl))⟩
  f24 := ⟨Try.f55.name, by decide, Try.func55.trans (congrArg some (by kernel_rfl))⟩
  f25 := ⟨Try.f56.name, by decide, Try.func56.trans (congrArg some (by kernel_rfl))⟩
  f26 := ⟨Try.f57.name, by decide, Try.func57.trans (congrArg some (by kernel_rfl))⟩
  f27 := ⟨Try.f58.name, by decide, Try.func58.trans (congrArg some (by kernel_rfl))⟩
  f28 := Try.func59.trans (congrArg some (by kernel_rfl))
  f29 := Try.func60.trans (congrArg some (by kernel_rfl))
  f46 := ⟨Try.f61.name, by decide, Try.func61.trans (congrArg some (by kernel_rfl))⟩
  f47 := Try.func62.trans (congrArg some (by kernel_rfl))
  f48 := Try.func63.trans (congrArg some (by kernel_rfl))
  f49 := ⟨Try.f64.name, by decide, Try.func64.trans (congrArg some (by kernel_rfl))⟩
  f50 := ⟨Try.f65.name, by decide, Try.func65.trans (congrArg some (by kernel_rfl))⟩
  f57 := ⟨Try.f66.name, by decide, Try.func66.trans (congrArg some (by kernel_rfl))⟩
  t0 := Try.underlying0
  a0 := Try.isAgg0
  z0 := Try.sizeOf0
  v0 := Try.zeroValue0
  t3 := Try.underlying3
  a3 := Try.isAgg3
  z3 := Try.sizeOf3
  v3 := Try.zeroValue3
  t4 := Try.underlying4
  a4 := Try.isAgg4
  z4 := Try.sizeOf4
  v4 := Try.zeroValue4
  t5 := Try.underlying5
  a5 := Try.isAgg5
  z5 := Try.sizeOf5
  v5 := Try.zeroValue5
  t9 := Try.underlying9
  a9 := Try.isAgg9
  z9 := Try.sizeOf9
  v9 := Try.zeroValue9
  t22 := Try.underlying31
  a22 := Try.isAgg31
  z22 := Try.sizeOf31
  v22 := Try.zeroValue31
  t25 := Try.underlying65
  a25 := Try.isAgg65
  z25 := Try.sizeOf65
  v25 := Try.zeroValue65
  t39 := Try.underlying83
  a39 := Try.isAgg83
  z39 := Try.sizeOf83
  v39 := Try.zeroValue83
  t45 := Try.underlying85
  a45 := Try.isAgg85
  z45 := Try.sizeOf85
  v45 := Try.zeroValue85
  t46 := Try.underlying86
  a46 := Try.isAgg86
  z46 := Try.sizeOf86
  v46 := Try.zeroValue86
  t50 := Try.underlying90
  a50 := Try.isAgg90
  z50 := Try.sizeOf90
  v50 := Try.zeroValue90
  t53 := Try.underlying22
  a53 := Try.isAgg22
  z53 := Try.sizeOf22
  v53 := Try.zeroValue22
  t55 := Try.underlying37
  a55 := Try.isAgg37
  z55 := Try.sizeOf37
  v55 := Try.zeroValue37
  t66 := Try.underlying94
  a66 := Try.isAgg94
  z66 := Try.sizeOf94
  v66 := Try.zeroValue94
  t70 := Try.underlying98
  a70 := Try.isAgg98
  z70 := Try.sizeOf98
  v70 := Try.zeroValue98
  t76 := Try.underlying100
  a76 := Try.isAgg100
  z76 := Try.sizeOf100
  v76 := Try.zeroValue100
  t77 := Try.underlying101
  a77 := Try.isAgg101
  z77 := Try.sizeOf101
  v77 := Try.zeroValue101 }
namespace Ytfgkmimhibpceaa
open Go.RowKit Go.Sort Go.Shelf
set_option maxRecDepth 100000
theorem Try.isAggLb (w : World) : (isAgg (Try.lays6_ren.t 24)).run Try.prog w = .ok true w := by kernel_rfl
theorem Try.sizeOfLb (w : World) : (Go.sizeOf (Try.lays6_ren.t 24)).run Try.prog w = .ok 3 w := by kernel_rfl
def lbC (x y : Lb) : Int := cmpN x.hub.toNat y.hub.toNat
theorem lbLt (x y : Lb) : ltOf lbC x y = true ↔ x.hub.toNat < y.hub.toNat := by
  unfold ltOf lbC cmpN
  by_cases h : x.hub.toNat < y.hub.toNat
  · simp [h]
  · by_cases h2 : y.hub.toNat < x.hub.toNat <;> simp [h, h2]
theorem lbLt_no (x y : Lb) : ltOf lbC x y = false ↔ y.hub.toNat ≤ x.hub.toNat := by
  rw [← Bool.not_eq_true, lbLt]; omega
theorem swoL : SWO (ltOf lbC) where
  irrefl x := by rw [lbLt_no]; exact Nat.le_refl _
  trans x y z h1 h2 := by rw [lbLt] at *; omega
  ntrans x y z h1 h2 := by rw [lbLt_no] at *; omega
theorem byHub_any (x y : Lb) (W : World) : Calls Try.prog 34 #[.agg x.enc.toArray, .agg y.enc.toArray] W fun e w' => e = .returned (.int .i64 (lbC x y)) ∧ ∃ q os', w' = grow (W.drewN q) os' := by
  obtain ⟨xa, xb, xc⟩ := x
  obtain ⟨ya, yb, yc⟩ := y
  have HC := Lib.hid (cmp32 xa.toNat ya.toNat)
  unfold lbC Lb.enc
  simp only []
  generalize cmpN xa.toNat ya.toNat = C at *
  go_enter Try.func34, Try.ntmps34
  go_wp2_with (go_at_call 30; refine (HC.out _).mono ?_; rintro e w1 ⟨rfl, rfl⟩)
  go_ret
  exact ⟨rfl, 0, _, by rw [alloc_eq_grow, alloc_eq_grow, grow_grow]; rfl⟩
instance : Inhabited Lb := ⟨⟨0, 0, 0⟩⟩
theorem ris_of {d : Array Lb} (hs : SortedIn (ltOf lbC) 0 d.size d) (hn : (d.toList.map Lb.hub).Nodup) : Ris d.toList := by
  intro i hi
  have hi0 : i < d.toList.length := by omega
  have h := hs i (i + 1) (Nat.zero_le _) (by omega) (by simpa using hi)
  have ei : d[i]! = d.toList[i] := by simp at hi0; simp [hi0]
  have ej : d[i + 1]! = d.toList[i + 1] := by simp at hi; simp [hi]
  rw [ei, ej, lbLt_no] at h
  have hne : d.toList[i].hub ≠ d.toList[i + 1].hub := by
    have h2 := List.pairwise_iff_getElem.1 hn i (i + 1) (by simpa using hi0) (by simpa using hi) (by omega)
    simpa using h2
  have : d.toList[i].hub.toNat ≠ d.toList[i + 1].hub.toNat := fun e => hne (UInt32.toNat_inj.1 e)
  omega
theorem sortsL (wx : World) (B : Nat) (v : Value) (l : List Lb) (h : OwnL wx B v l) (hlen : l.length ≤ 1000000000) :
    Calls Try.prog 45 #[v, .func (.func 34) #[] #[]] wx fun e w' =>
    e = .returned (.tuple #[]) ∧ ∃ l', l'.Perm l ∧ ((l.map Lb.hub).Nodup → Ris l') ∧ OwnL w' B v l' ∧ wx.grownBy w' v.ownBlock := by
  have hk : ∀ x : Lb, (Lb.enc x).length = 3 := fun _ => rfl
  by_cases h0 : l.length = 0
  · obtain rfl := List.eq_nil_of_length_eq_zero h0
    have hh := h
    obtain ⟨_, A, c, g, off, rfl, hnc, hcm, hA0, hA, hb, hx, hf⟩ := hh
    have hs := AnyF.slices_SortFunc_none Try.lays6 A c (.func (.func 34) #[] #[]) wx
    change Calls Try.prog 45 _ _ _ at hs
    refine hs.mono ?_
    rintro e w' ⟨rfl, rfl⟩
    exact ⟨rfl, [], List.Perm.refl _, fun _ i hi => by simp at hi, h, gr_refl _ _⟩
  · have h1 : 0 < l.length := by omega
    have hh := h
    obtain ⟨_, A, c, g, off, rfl, hnc, hcm, hA0, hA, hb, hx, hf⟩ := hh
    obtain rfl := hA (by omega)
    have hblk : g < wx.heap.size := by
      have := (hf 0 (by omega)).1
      obtain ⟨u, hu⟩ := Option.isSome_iff_exists.1 this
      exact World.block_lt_of_cell? wx _ hu
    have hB : B ≤ g := hb _ rfl
    have eg : ∀ args w, (callFunc 34 args).run Try.prog w = .ok (.enter 34 args) w := enters_of Try.func34 (by kernel_rfl) rfl
    have hcl : CmpLays Try.prog 34 #[] Lb.enc 3 lbC g off l.toArray.size wx := fun m os dk _ x y => byHub_any x y _
    have hs := AnyQ.slices_SortFunc Try.lays6 3 Try.isAggLb Try.sizeOfLb Lb.enc hk (fun x v hv => by simp [Lb.enc] at hv; rcases hv with rfl | rfl | rfl <;> rfl) lbC swoL 34 #[] g off c l.toArray wx eg hcl (own_holds hk h h1) hblk (by simp; omega)
    change Calls Try.prog 45 _ _ _ at hs
    rw [show l.toArray.size = l.length from by simp] at hs
    refine hs.mono ?_
    rintro e w' ⟨rfl, d', n, os, hp, hso, rfl⟩
    obtain ⟨hpm, hds⟩ := perm_of l d' hp
    refine ⟨rfl, d'.toList, hpm, fun hnd => ris_of (by rw [hds]; exact hso) ((hpm.map Lb.hub).nodup_iff.2 hnd), ?_, gr_sortWorld wx g off n d' os⟩
    have ho := own_sorted hk h h1 hblk hp n os
    unfold OwnL OwnG
    rw [show d'.toList.length = l.length from by simpa using hds]
    exact ho
end Ytfgkmimhibpceaa
end Go.Proofs
