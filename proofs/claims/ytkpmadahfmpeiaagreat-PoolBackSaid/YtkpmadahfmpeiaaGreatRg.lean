/-
  slices.SortFunc at rows of structs, in this seat's words of memory.
-/
import Derived.Test.YtkpmadahfmpeiaaGreatB
import Derived.Shelf.SlSortCmp.WholeK
import Derived.Test.YtkpmadahfmpeiaaGreatOn3a
import Derived.Shelf.SlSortCmp.NoneTotal
import Derived.Test.YtkpmadahfmpeiaaGreatVm
import Derived.Test.YtkpmadahfmpeiaaGreatOn3
namespace Go.Proofs.YtkpmadahfmpeiaaGreat
open Go.RowKit Go.Sort Go.Shelf
set_option maxRecDepth 100000

section
variable {α : Type} {enc : α → List Value} {k : Nat}
theorem flat_len (hk : ∀ x, (enc x).length = k) (l : List α) : (l.flatMap enc).length = l.length * k := by
  induction l with
  | nil => simp
  | cons a l ih => rw [List.flatMap_cons, List.length_append, hk, ih, List.length_cons, Nat.add_mul]; omega
theorem flat_at (hk : ∀ x, (enc x).length = k) (l : List α) {i j : Nat} (hi : i < l.length) (hj : j < k) : (l.flatMap enc)[i * k + j]? = (enc l[i])[j]? := by
  induction l generalizing i with
  | nil => simp at hi
  | cons a l ih =>
    rw [List.flatMap_cons]
    cases i with
    | zero => rw [Nat.zero_mul, Nat.zero_add, List.getElem?_append_left (by rw [hk]; exact hj)]; rfl
    | succ i =>
      rw [List.getElem?_append_right (by rw [hk, Nat.add_mul]; omega), hk, show (i + 1) * k + j - k = i * k + j from by rw [Nat.add_mul]; omega]
      exact ih (by simpa using hi)
variable [Inhabited α]
theorem flatK_at (hk : ∀ x, (enc x).length = k) (l : List α) {t : Nat} (ht : t < l.length * k) : some ((flatK enc k l.toArray)[t]!) = (l.flatMap enc)[t]? := by
  have hk0 : 0 < k := by
    rcases Nat.eq_zero_or_pos k with e | e
    · subst e; simp at ht
    · exact e
  have hi : t / k < l.length := (Nat.div_lt_iff_lt_mul hk0).2 ht
  have hj : t % k < k := Nat.mod_lt _ hk0
  rw [get_flatK enc k l.toArray t (by simpa using ht)]
  have e : t / k * k + t % k = t := Nat.div_add_mod' t k
  conv => rhs; rw [← e]
  rw [flat_at hk l hi hj]
  have hx : (enc l[t / k]).length = k := hk _
  rw [List.getElem?_eq_getElem (by omega)]
  congr 1
  rw [show l.toArray[t / k]! = l[t / k] from by simp [hi]]
  rw [List.getElem!_eq_getElem?_getD, List.getElem?_eq_getElem (by omega)]
  rfl
theorem own_holds (hk : ∀ x, (enc x).length = k) {w : World} {B blk off c : Nat} {l : List α} (h : Go.Proofs.YtkpmadahfmpeiaaGreat.Own w B k (.slice (some ⟨blk, off, none⟩) l.length c) l.length (l.flatMap enc)) (h0 : 0 < l.length) : HoldsK enc k w blk off l.toArray := by
  obtain ⟨hl, A, c', g, off', e, hn, hc, hA0, hA, hb, hx, hf⟩ := h
  cases e
  have := hA (by omega)
  cases this
  intro j hj
  have hj' : j < l.length * k := by simpa [flatK] using hj
  refine ⟨?_, (hf j (Nat.lt_of_lt_of_le hj' (Nat.mul_le_mul_right k hn))).2⟩
  rw [hx j hj', ← flatK_at hk l hj']
  rfl
theorem perm_of (l : List α) (d' : Array α) (h : PermIn 0 l.length l.toArray d') : d'.toList.Perm l ∧ d'.size = l.length := by
  obtain ⟨h1, _, h3⟩ := h
  have hs : d'.size = l.length := by simpa using h1
  refine ⟨?_, hs⟩
  have e1 : d'.extract 0 l.length = d' := by rw [← hs]; simp
  have e2 : l.toArray.extract 0 l.length = l.toArray := by simp
  rw [e1, e2] at h3
  exact h3
theorem gr_sortWorld (w : World) (blk off n : Nat) (d' : Array α) (os : Array Obj) : w.grownBy (sortWorldK enc k w blk off n d' os) (some blk) := by
  unfold sortWorldK putRowK putRow mapBlock Go.Sort.grow Go.Sort.ahead
  refine ⟨rfl, rfl, rfl, by simp, fun i hi hne => ?_⟩
  show (w.heap.modify blk _ ++ os)[i]? = _
  rw [Array.getElem?_append_left (by simpa using hi), Array.getElem?_modify, if_neg (fun e => hne (by rw [e]))]
theorem own_sorted (hk : ∀ x, (enc x).length = k) {w : World} {B blk off c : Nat} {l : List α} (h : Go.Proofs.YtkpmadahfmpeiaaGreat.Own w B k (.slice (some ⟨blk, off, none⟩) l.length c) l.length (l.flatMap enc)) (h0 : 0 < l.length) (hblk : blk < w.heap.size) {d' : Array α} (hp : PermIn 0 l.length l.toArray d') (n : Nat) (os : Array Obj) :
    Go.Proofs.YtkpmadahfmpeiaaGreat.Own (sortWorldK enc k w blk off n d' os) B k (.slice (some ⟨blk, off, none⟩) l.length c) l.length (d'.toList.flatMap enc) := by
  obtain ⟨hpm, hs⟩ := perm_of l d' hp
  have hH := own_holds hk h h0
  obtain ⟨hl, A, c', g, off', e, hn, hc, hA0, hA, hb, hx, hf⟩ := h
  cases e
  have := hA (by omega)
  cases this
  have hH2 : HoldsK enc k (sortWorldK enc k w blk off n d' os) blk off d' := by
    unfold sortWorldK
    exact holdsK_grow enc k _ os blk off d' (by simpa [putRowK, putRow, mapBlock, Go.Sort.ahead] using hblk) (holdsK_putRowK enc k (Go.Sort.ahead w n) blk off l.toArray d' (holdsK_ahead enc k w n blk off _ hH) (by simpa using hs))
  have hdl : d'.toList.length = l.length := by simpa using hs
  refine ⟨by rw [flat_len hk, hdl], _, c, blk, off, rfl, hn, hc, hA0, fun _ => rfl, hb, fun j hj => ?_, fun j hj => ?_⟩
  · have hj' : j < (flatK enc k d').size := by simpa [flatK, hs] using hj
    have := (hH2 j hj').1
    rw [this]
    have e := flatK_at hk d'.toList (t := j) (by rw [hdl]; exact hj)
    simpa using e
  · by_cases hj2 : j < l.length * k
    · have hj' : j < (flatK enc k d').size := by simpa [flatK, hs] using hj2
      have := hH2 j hj'
      exact ⟨by rw [this.1]; rfl, this.2⟩
    · have e1 : (sortWorldK enc k w blk off n d' os).cell? ⟨blk, off + j, none⟩ = w.cell? ⟨blk, off + j, none⟩ := by
        unfold sortWorldK
        have hsz : (putRowK enc k (Go.Sort.ahead w n) blk off d').heap.size = w.heap.size := by simp [putRowK, putRow, mapBlock, Go.Sort.ahead]
        rw [Go.Sort.cell?_grow _ os _ (by rw [hsz]; exact hblk)]
        exact cell?_putRow_other id (Go.Sort.ahead w n) blk off _ _ (.inr (.inr (by simp [flatK, hs]; omega)))
      have e2 : (sortWorldK enc k w blk off n d' os).frozen? ⟨blk, off + j, none⟩ = w.frozen? ⟨blk, off + j, none⟩ := by
        unfold sortWorldK
        have hsz : (putRowK enc k (Go.Sort.ahead w n) blk off d').heap.size = w.heap.size := by simp [putRowK, putRow, mapBlock, Go.Sort.ahead]
        rw [Go.Sort.frozen?_grow _ os _ (by rw [hsz]; exact hblk)]
        exact frozen?_putRow id (Go.Sort.ahead w n) blk off _ _
      rw [e1, e2]
      exact hf j hj
end
end Go.Proofs.YtkpmadahfmpeiaaGreat

/- What slices.SortFunc does with rows of sectors. -/
namespace Go.Proofs
open Go.Shelf
def Tryz.lays6_ren : Go.Shelf.Ren := ⟨fun | 6 => 95 | 15 => 137 | 14 => 138 | 28 => 169 | 29 => 170 | 20 => 171 | 21 => 172 | 22 => 173 | 23 => 174 | 24 => 175 | 25 => 176 | 26 => 177 | 27 => 178 | 46 => 200 | 47 => 195 | 48 => 196 | 49 => 201 | 50 => 202 | 57 => 209 | n => n, fun | 22 => 95 | 24 => 129 | 25 => 172 | 3 => 3 | 39 => 199 | 0 => 0 | 53 => 61 | 55 => 207 | 4 => 4 | 46 => 221 | 45 => 220 | 50 => 174 | 5 => 5 | 9 => 9 | 66 => 241 | 70 => 245 | 76 => 256 | 77 => 257 | n => n, fun | n => n⟩
theorem Tryz.lays6 : Go.Proofs.SlLaysF0.n6 Tryz.prog Tryz.lays6_ren := {
  mixed := by kernel_rfl
  f6 := ⟨Tryz.f95.name, by decide, Tryz.func95.trans (congrArg some (by kernel_rfl))⟩
  f14 := ⟨Tryz.f138.name, by decide, Tryz.func138.trans (congrArg some (by kernel_rfl))⟩
  f15 := Tryz.func137.trans (congrArg some (by kernel_rfl))
  f20 := ⟨Tryz.f171.name, by decide, Tryz.func171.trans (congrArg some (by kernel_rfl))⟩
  f21 := ⟨Tryz.f172.name, by decide, Tryz.func172.trans (congrArg some (by kernel_rfl))⟩
  f22 := ⟨Tryz.f173.name, by decide, Tryz.func173.trans (congrArg some (by kernel_rfl))⟩
  f23 := ⟨Tryz.f174.name, by decide, Tryz.func174.trans (congrArg some (by kernel_rfl))⟩
  f24 := ⟨Tryz.f175.name, by decide, Tryz.func175.trans (congrArg some (by kernel_rfl))⟩
  f25 := ⟨Tryz.f176.name, by decide, Tryz.func176.trans (congrArg some (by kernel_rfl))⟩
  f26 := ⟨Tryz.f177.name, by decide, Tryz.func177.trans (congrArg some (by kernel_rfl))⟩
  f27 := ⟨Tryz.f178.name, by decide, Tryz.func178.trans (congrArg some (by kernel_rfl))⟩
  f28 := Tryz.func169.trans (congrArg some (by kernel_rfl))
  f29 := Tryz.func170.trans (congrArg some (by kernel_rfl))
  f46 := ⟨Tryz.f200.name, by decide, Tryz.func200.trans (congrArg some (by kernel_rfl))⟩
  f47 := Tryz.func195.trans (congrArg some (by kernel_rfl))
  f48 := Tryz.func196.trans (congrArg some (by kernel_rfl))
  f49 := ⟨Tryz.f201.name, by decide, Tryz.func201.trans (congrArg some (by kernel_rfl))⟩
  f50 := ⟨Tryz.f202.name, by decide, Tryz.func202.trans (congrArg some (by kernel_rfl))⟩
  f57 := ⟨Tryz.f209.name, by decide, Tryz.func209.trans (congrArg some (by kernel_rfl))⟩
  t0 := Tryz.underlying0
  a0 := Tryz.isAgg0
  z0 := Tryz.sizeOf0
  v0 := Tryz.zeroValue0
  t3 := Tryz.underlying3
  a3 := Tryz.isAgg3
  z3 := Tryz.sizeOf3
  v3 := Tryz.zeroValue3
  t4 := Tryz.underlying4
  a4 := Tryz.isAgg4
  z4 := Tryz.sizeOf4
  v4 := Tryz.zeroValue4
  t5 := Tryz.underlying5
  a5 := Tryz.isAgg5
  z5 := Tryz.sizeOf5
  v5 := Tryz.zeroValue5
  t9 := Tryz.underlying9
  a9 := Tryz.isAgg9
  z9 := Tryz.sizeOf9
  v9 := Tryz.zeroValue9
  t22 := Tryz.underlying95
  a22 := Tryz.isAgg95
  z22 := Tryz.sizeOf95
  v22 := Tryz.zeroValue95
  t25 := Tryz.underlying172
  a25 := Tryz.isAgg172
  z25 := Tryz.sizeOf172
  v25 := Tryz.zeroValue172
  t39 := Tryz.underlying199
  a39 := Tryz.isAgg199
  z39 := Tryz.sizeOf199
  v39 := Tryz.zeroValue199
  t45 := Tryz.underlying220
  a45 := Tryz.isAgg220
  z45 := Tryz.sizeOf220
  v45 := Tryz.zeroValue220
  t46 := Tryz.underlying221
  a46 := Tryz.isAgg221
  z46 := Tryz.sizeOf221
  v46 := Tryz.zeroValue221
  t50 := Tryz.underlying174
  a50 := Tryz.isAgg174
  z50 := Tryz.sizeOf174
  v50 := Tryz.zeroValue174
  t53 := Tryz.underlying61
  a53 := Tryz.isAgg61
  z53 := Tryz.sizeOf61
  v53 := Tryz.zeroValue61
  t55 := Tryz.underlying207
  a55 := Tryz.isAgg207
  z55 := Tryz.sizeOf207
  v55 := Tryz.zeroValue207
  t66 := Tryz.underlying241
  a66 := Tryz.isAgg241
  z66 := Tryz.sizeOf241
  v66 := Tryz.zeroValue241
  t70 := Tryz.underlying245
  a70 := Tryz.isAgg245
  z70 := Tryz.sizeOf245
  v70 := Tryz.zeroValue245
  t76 := Tryz.underlying256
  a76 := Tryz.isAgg256
  z76 := Tryz.sizeOf256
  v76 := Tryz.zeroValue256
  t77 := Tryz.underlying257
  a77 := Tryz.isAgg257
  z77 := Tryz.sizeOf257
  v77 := Tryz.zeroValue257 }
namespace YtkpmadahfmpeiaaGreat
open Go.RowKit Go.Sort Go.Shelf Go.Maps
set_option maxRecDepth 100000
theorem Tryz.isAggPl (w : World) : (isAgg (Tryz.lays6_ren.t 24)).run Tryz.prog w = .ok true w := by kernel_rfl
theorem Tryz.sizeOfPl (w : World) : (Go.sizeOf (Tryz.lays6_ren.t 24)).run Tryz.prog w = .ok 2 w := by kernel_rfl
theorem sorts_any : SortsP := by
  intro wx B v l h hlen
  have hk : ∀ x : Sec, (Sec.enc x).length = 2 := fun _ => rfl
  by_cases h0 : l.length = 0
  · obtain rfl := List.eq_nil_of_length_eq_zero h0
    have hh := h
    obtain ⟨_, A, c, g, off, rfl, hnc, hcm, hA0, hA, hb, hx, hf⟩ := hh
    have hs := AnyF.slices_SortFunc_none Tryz.lays6 A c (.func (.func 96) #[] #[]) wx
    change Calls Tryz.prog 95 _ _ _ at hs
    refine hs.mono ?_
    rintro e w' ⟨rfl, rfl⟩
    exact ⟨rfl, [], List.Perm.refl _, fun _ => List.Pairwise.nil, h, gr_refl _ _⟩
  · have h1 : 0 < l.length := by omega
    have hh := h
    obtain ⟨_, A, c, g, off, rfl, hnc, hcm, hA0, hA, hb, hx, hf⟩ := hh
    obtain rfl := hA (by omega)
    have hblk : g < wx.heap.size := by
      have := (hf 0 (by omega)).1
      obtain ⟨u, hu⟩ := Option.isSome_iff_exists.1 this
      exact World.block_lt_of_cell? wx _ hu
    have hB : B ≤ g := hb _ rfl
    have eg : ∀ args w, (callFunc 96 args).run Tryz.prog w = .ok (.enter 96 args) w := enters_of Tryz.func96 (by kernel_rfl) rfl
    have hcl : CmpLays Tryz.prog 96 #[] Sec.enc 2 secC g off l.toArray.size wx := fun m os dk _ x y => secCmp_any x y _
    have hs := AnyQ.slices_SortFunc Tryz.lays6 2 Tryz.isAggPl Tryz.sizeOfPl Sec.enc hk (fun x v hv => by simp [Sec.enc] at hv; rcases hv with rfl | rfl <;> rfl) secC swoS 96 #[] g off c l.toArray wx eg hcl (own_holds hk h h1) hblk (by simp; omega)
    change Calls Tryz.prog 95 _ _ _ at hs
    rw [show l.toArray.size = l.length from by simp] at hs
    refine hs.mono ?_
    rintro e w' ⟨rfl, d', n, os, hp, hso, rfl⟩
    obtain ⟨hpm, hds⟩ := perm_of l d' hp
    refine ⟨rfl, d'.toList, hpm, fun hnd => secUp_of (by rw [hds]; exact hso) (hpm.nodup_iff.2 hnd), ?_, gr_sortWorld wx g off n d' os⟩
    have ho := own_sorted hk h h1 hblk hp n os
    unfold OwnP
    rw [show d'.toList.length = l.length from by simpa using hds]
    exact ho
end YtkpmadahfmpeiaaGreat
end Go.Proofs

/- A disk seen from an older world: Arm, Quota, Dead, and all operations in that form. -/
namespace Go.Proofs.YtkpmadahfmpeiaaGreat
open Go.RowKit
set_option maxRecDepth 100000
set_option maxHeartbeats 400000

section
variable {w : World} {B d : Nat} {o : Own1} {S : Dk} {c : Con}
theorem arm_any (h : DI w B o d S c) (n : Int) (hn : -9223372036854775808 ≤ n ∧ n ≤ 9223372036854775807) :
    Calls Tryz.prog 17 #[.pointer (some ⟨d, 0, none⟩), .int .i64 n] w fun e w' => e = .returned (.int .i64 (S.arm n).2) ∧ DOut o w B d (S.arm n).1 w' := by
  have hc := h.self.cell
  have hf := h.self.frozen
  unfold selfC at hc
  have H := Lib.hid h
  clear h
  by_cases h0 : n < 0
  · have e : S.arm n = (S, 1) := if_pos h0
    rw [e]
    clear e
    go_enter Tryz.func17, Tryz.ntmps17
    go_wp2
    go_ret
    exact ⟨rfl, o, c, H.out, Ch.refl _ _⟩
  · have h1 : 0 ≤ n := by omega
    have hdec : decide (n < 0) = false := by simpa using h1
    cases hd : S.dead with
    | true =>
      have e : S.arm n = (S, 6) := by unfold Dk.arm; rw [if_neg h0, if_pos hd]
      rw [e]
      rw [hd] at hc
      clear e hd h0
      go_enter Tryz.func17, Tryz.ntmps17
      go_wp2
      go_ret
      exact ⟨rfl, o, c, H.out, Ch.refl _ _⟩
    | false =>
      have e : S.arm n = ({ S with armed := n.toNat }, 0) := by unfold Dk.arm; rw [if_neg h0, if_neg (by rw [hd]; simp)]
      rw [e]
      rw [hd] at hc
      obtain ⟨k, rfl⟩ := Int.eq_ofNat_of_zero_le h1
      have HB : Hid (DI (w.setCell ⟨d, 3, none⟩ (.int .i64 (k : Int))) B o d { S with armed := (k : Int).toNat } c) := by
        have := DI.numbers H.out (gr_setCell w ⟨d, 3, none⟩ (.int .i64 (k : Int))) S.quota k S.dead (by simpa [selfC] using H.out.self.set 3 (.int .i64 (k : Int))) H.out.lim.1 (by omega)
        rw [Int.toNat_natCast]
        exact this
      clear e hd h0
      go_enter Tryz.func17, Tryz.ntmps17
      go_wp2
      go_ret
      exact ⟨rfl, o, c, HB.out, Ch.of_gr (gr_setCell _ _ _) (fun k e => by cases e; rw [H.out.tD]; simp)⟩
theorem quota_any (h : DI w B o d S c) (n : Int) (hn : -9223372036854775808 ≤ n ∧ n ≤ 9223372036854775807) :
    Calls Tryz.prog 50 #[.pointer (some ⟨d, 0, none⟩), .int .i64 n] w fun e w' => e = .returned (.int .i64 (S.setQuota n).2) ∧ DOut o w B d (S.setQuota n).1 w' := by
  have hc := h.self.cell
  have hf := h.self.frozen
  unfold selfC at hc
  have H := Lib.hid h
  clear h
  by_cases h0 : n < 0
  · have e : S.setQuota n = (S, 1) := if_pos (.inl h0)
    rw [e]
    clear e
    go_enter Tryz.func50, Tryz.ntmps50
    go_wp2
    go_ret
    exact ⟨rfl, o, c, H.out, Ch.refl _ _⟩
  · have h1 : 0 ≤ n := by omega
    have hdec : decide (n < 0) = false := by simpa using h1
    by_cases h2 : 1048576 < n
    · have e : S.setQuota n = (S, 1) := if_pos (.inr h2)
      rw [e]
      clear e h0
      go_enter Tryz.func50, Tryz.ntmps50
      go_wp2
      go_ret
      exact ⟨rfl, o, c, H.out, Ch.refl _ _⟩
    · have e : S.setQuota n = ({ S with quota := n.toNat }, 0) := if_neg (by omega)
      rw [e]
      have h3 : n ≤ 1048576 := by omega
      have hdec2 : decide (1048576 < n) = false := by simpa using h3
      obtain ⟨k, rfl⟩ := Int.eq_ofNat_of_zero_le h1
      have HB : Hid (DI (w.setCell ⟨d, 2, none⟩ (.int .i64 (k : Int))) B o d { S with quota := (k : Int).toNat } c) := by
        have := DI.numbers H.out (gr_setCell w ⟨d, 2, none⟩ (.int .i64 (k : Int))) k S.armed S.dead (by simpa [selfC] using H.out.self.set 2 (.int .i64 (k : Int))) (by omega) H.out.lim.2
        rw [Int.toNat_natCast]
        exact this
      clear e h0 h2
      go_enter Tryz.func50, Tryz.ntmps50
      go_wp2
      go_ret
      exact ⟨rfl, o, c, HB.out, Ch.of_gr (gr_setCell _ _ _) (fun k e => by cases e; rw [H.out.tD]; simp)⟩
end

/-- a disk, seen from an older world in which nothing was its own. -/
structure DA (w0 : World) (d : Nat) (o : Own1) (S : Dk) (w : World) : Prop where
  di : ∃ c, DI w w0.heap.size o d S c
  gr : w0.grownBy w none
def DP (w0 : World) (d : Nat) (o : Own1) (S : Dk) (w w' : World) : Prop := ∃ o', DA w0 d o' S w' ∧ Ch o w o' w'
section
variable {w0 w w1 : World} {d : Nat} {o : Own1} {S S' : Dk}
theorem DA.own0 (h : DA w0 d o S w) : ∀ i, o i ≠ none → w0.heap.size ≤ i := fun i hi => by obtain ⟨c, h⟩ := h.di; exact (h.inb i hi).1
theorem DA.own1 (h : DA w0 d o S w) : ∀ i, o i ≠ none → i < w.heap.size := fun i hi => by obtain ⟨c, h⟩ := h.di; exact (h.inb i hi).2
theorem DA.fresh (h : DA w0 d o S w) {i : Nat} (hi : w.heap.size ≤ i) : o i = none := by
  cases e : o i with
  | none => rfl
  | some t => exact absurd (h.own1 i (by rw [e]; simp)) (by omega)
theorem DA.out (h : DA w0 d o S w) (hd : DOut o w w0.heap.size d S' w1) : DP w0 d o S' w w1 := by
  obtain ⟨o', c', h1, ch⟩ := hd
  exact ⟨o', ⟨⟨c', h1⟩, ch.gr h.gr h.own0⟩, ch⟩
theorem DA.ext (h : DA w0 d o S w) (g : w.grownBy w1 none) : DA w0 d o S w1 := by
  obtain ⟨⟨c, h1⟩, h2⟩ := h
  exact ⟨⟨c, h1.ext g⟩, gr_none h2 g⟩
theorem DA.new (q : Nat) (w : World) (hq : q ≤ 1048576) : Calls Tryz.prog 10 #[.int .i64 q] w fun e w' => ∃ d o, e = .returned (.tuple #[.pointer (some ⟨d, 0, none⟩), .int .i64 0]) ∧ DA w d o (newD q) w' :=
  (new_ok q w hq).mono fun _ _ ⟨d, o, c, e, h1, h2⟩ => ⟨d, o, e, ⟨c, h1⟩, h2⟩
theorem DA.create (h : DA w0 d o S w) (n : List UInt8) (hn : n.length ≤ 1000000000) (hfl : S.fs.length ≤ 1000000) :
    Calls Tryz.prog 18 #[.pointer (some ⟨d, 0, none⟩), .string ⟨n.toArray⟩] w fun e w' => e = .returned (.int .i64 (S.create n).2) ∧ DP w0 d o (S.create n).1 w w' := by
  obtain ⟨c, h1⟩ := h.di
  exact (create_any h1 n hn hfl).mono fun _ _ ⟨e, k⟩ => ⟨e, h.out k⟩
theorem DA.sync (h : DA w0 d o S w) (n : List UInt8) (hn : n.length ≤ 1000000000) :
    Calls Tryz.prog 105 #[.pointer (some ⟨d, 0, none⟩), .string ⟨n.toArray⟩] w fun e w' => e = .returned (.int .i64 (S.sync n).2) ∧ DP w0 d o (S.sync n).1 w w' := by
  obtain ⟨c, h1⟩ := h.di
  exact (sync_any h1 n hn).mono fun _ _ ⟨e, k⟩ => ⟨e, h.out k⟩
theorem DA.cut (h : DA w0 d o S w) (n : List UInt8) (hn : n.length ≤ 1000000000) (k : Int) (hk : -9223372036854775808 ≤ k ∧ k ≤ 9223372036854775807) :
    Calls Tryz.prog 111 #[.pointer (some ⟨d, 0, none⟩), .string ⟨n.toArray⟩, .int .i64 k] w fun e w' => e = .returned (.int .i64 (S.cut n k).2) ∧ DP w0 d o (S.cut n k).1 w w' := by
  obtain ⟨c, h1⟩ := h.di
  exact (cut_any h1 n hn k hk).mono fun _ _ ⟨e, k⟩ => ⟨e, h.out k⟩
theorem DA.arm (h : DA w0 d o S w) (k : Int) (hk : -9223372036854775808 ≤ k ∧ k ≤ 9223372036854775807) :
    Calls Tryz.prog 17 #[.pointer (some ⟨d, 0, none⟩), .int .i64 k] w fun e w' => e = .returned (.int .i64 (S.arm k).2) ∧ DP w0 d o (S.arm k).1 w w' := by
  obtain ⟨c, h1⟩ := h.di
  exact (arm_any h1 k hk).mono fun _ _ ⟨e, k⟩ => ⟨e, h.out k⟩
theorem DA.quota (h : DA w0 d o S w) (k : Int) (hk : -9223372036854775808 ≤ k ∧ k ≤ 9223372036854775807) :
    Calls Tryz.prog 50 #[.pointer (some ⟨d, 0, none⟩), .int .i64 k] w fun e w' => e = .returned (.int .i64 (S.setQuota k).2) ∧ DP w0 d o (S.setQuota k).1 w w' := by
  obtain ⟨c, h1⟩ := h.di
  exact (quota_any h1 k hk).mono fun _ _ ⟨e, k⟩ => ⟨e, h.out k⟩
theorem DA.used (h : DA w0 d o S w) (hfl : S.fs.length ≤ 1000000) : Calls Tryz.prog 114 #[.pointer (some ⟨d, 0, none⟩)] w fun e w' => e = .returned (.int .i64 S.used) ∧ w.grownBy w' none := by
  obtain ⟨c, h1⟩ := h.di
  exact used_any h1 hfl
theorem DA.size (h : DA w0 d o S w) (n : List UInt8) (hn : n.length ≤ 1000000000) :
    Calls Tryz.prog 108 #[.pointer (some ⟨d, 0, none⟩), .string ⟨n.toArray⟩] w fun e w' => e = .returned (.tuple #[.int .i64 (S.size n).1, .int .i64 (S.size n).2]) ∧ w.grownBy w' none := by
  obtain ⟨c, h1⟩ := h.di
  exact size_any h1 n hn
theorem DA.read (h : DA w0 d o S w) (n : List UInt8) (hn : n.length ≤ 1000000000) (off k : Int) (ho : -9223372036854775808 ≤ off ∧ off ≤ 9223372036854775807) (hk : -9223372036854775808 ≤ k ∧ k ≤ 9223372036854775807) :
    Calls Tryz.prog 109 #[.pointer (some ⟨d, 0, none⟩), .string ⟨n.toArray⟩, .int .i64 off, .int .i64 k] w fun e w' =>
      (∃ v, e = .returned (.tuple #[v, .int .i64 (S.read n off k).2]) ∧ OwnB w' w.heap.size v (S.read n off k).1) ∧ w.grownBy w' none := by
  obtain ⟨c, h1⟩ := h.di
  exact read_any h1 n hn off k ho hk
/-- b: bytes in new memory. -/
theorem DA.write (h : DA w0 d o S w1) (g : w1.grownBy w none) (n : List UInt8) (hn : n.length ≤ 1000000000) (off : Int) (hoff : -9223372036854775808 ≤ off ∧ off ≤ 9223372036854775807) {bv : Value} {b : List UInt8} (hb : OwnB w w1.heap.size bv b) (hbl : b.length ≤ 1000000000000)
    (hfl : S.fs.length ≤ 1000000) (hnl : S.nl ≤ 1000000000) :
    Calls Tryz.prog 64 #[.pointer (some ⟨d, 0, none⟩), .string ⟨n.toArray⟩, .int .i64 off, bv] w fun e w' => e = .returned (.int .i64 (S.write n off b).2) ∧ DP w0 d o (S.write n off b).1 w w' := by
  have h2 := h.ext g
  obtain ⟨c, h1⟩ := h2.di
  exact (write_any h1 n hn off hoff bv b hb.rd (fun k hk => by
    have := Own.blk_lt hb (by omega) hk
    exact ⟨this.2, h.fresh this.1⟩) hbl hfl (by omega)).mono fun _ _ ⟨e, k⟩ => ⟨e, h2.out k⟩
theorem DA.loose (h : DA w0 d o S w) (hli : LooseIn S) (hnl : S.nl ≤ 1000000000) : Calls Tryz.prog 40 #[.pointer (some ⟨d, 0, none⟩)] w fun e w' => ∃ v l, e = .returned v ∧ OwnP w' w.heap.size v l ∧ LsIs S l ∧ l.length ≤ S.nl ∧ w.grownBy w' none := by
  obtain ⟨c, h1⟩ := h.di
  exact (loose_any sorts_any h1 (looseOk h1 hli) hnl).mono fun _ _ ⟨v, l, e, k1, k2, k3, k4, k5, k6⟩ => ⟨v, l, e, k1, ⟨k2, k3, k4⟩, k5, k6⟩
theorem on_alive {S : Dk} {w : World} {B d : Nat} {o : Own1} {c : Con} (h : DI w B o d S c) (hd : S.dead = false) (kv : Value) : Calls Tryz.prog 19 #[.pointer (some ⟨d, 0, none⟩), kv] w fun e w' => e = .returned (.int .i64 14) ∧ w = w' := by
  have hc := h.self.cell
  unfold selfC at hc
  rw [hd] at hc
  clear h hd
  go_enter Tryz.func19, Tryz.ntmps19
  go_wp2
  go_ret
  exact ⟨rfl, rfl⟩
theorem DA.on (h : DA w0 d o S w) (hli : LooseIn S) (hnl : S.nl ≤ 1000000000) (hfl : S.fs.length ≤ 1000000) (hd : S.dead = true) {kv : Value} {keep : List Int} (hkv : Rd w 1 kv keep.length (intL keep)) (hkl : keep.length ≤ 1000000000) :
    Calls Tryz.prog 19 #[.pointer (some ⟨d, 0, none⟩), kv] w fun e w' => e = .returned (.int .i64 0) ∧ ∃ ls, LsIs S ls ∧ DP w0 d o (S.lit (onT S keep ls ls.length)) w w' := by
  obtain ⟨c, h1⟩ := h.di
  exact (on_any sorts_any h1 hli hnl hfl hd kv keep hkv hkl).mono fun _ _ ⟨e, ls, k1, k2⟩ => ⟨e, ls, k1, h.out k2⟩
end
end Go.Proofs.YtkpmadahfmpeiaaGreat

/- Rows of structs in memory. -/
namespace Go.Proofs.YtkpmadahfmpeiaaGreat
open Go.RowKit
set_option maxRecDepth 100000
set_option maxHeartbeats 400000

/-! rows of structs -/
section
variable {α : Type} {enc : α → List Value} {k : Nat}
theorem flat_len2 (hk : ∀ x, (enc x).length = k) (l : List α) : (l.flatMap enc).length = l.length * k := by
  induction l with
  | nil => simp
  | cons a l ih => rw [List.flatMap_cons, List.length_append, hk, ih, List.length_cons, Nat.add_mul]; omega
theorem flat_at2 (hk : ∀ x, (enc x).length = k) (l : List α) {i j : Nat} (hi : i < l.length) (hj : j < k) : (l.flatMap enc)[i * k + j]? = (enc l[i])[j]? := by
  induction l generalizing i with
  | nil => simp at hi
  | cons a l ih =>
    rw [List.flatMap_cons]
    cases i with
    | zero => rw [Nat.zero_mul, Nat.zero_add, List.getElem?_append_left (by rw [hk]; exact hj)]; rfl
    | succ i =>
      rw [List.getElem?_append_right (by rw [hk, Nat.add_mul]; omega), hk, show (i + 1) * k + j - k = i * k + j from by rw [Nat.add_mul]; omega]
      exact ih (by simpa using hi)
/-- a slice that reads as rows. -/
def RdG (enc : α → List Value) (k : Nat) (w : World) (v : Value) (l : List α) : Prop := Rd w k v l.length (l.flatMap enc)
def OwnG (enc : α → List Value) (k : Nat) (w : World) (B : Nat) (v : Value) (l : List α) : Prop := Own w B k v l.length (l.flatMap enc)
variable {w w' : World} {B : Nat} {v : Value} {l : List α}
theorem OwnG.rd (h : OwnG enc k w B v l) : RdG enc k w v l := Own.rd h
theorem RdG.ext (h : RdG enc k w v l) (hg : w.grownBy w' none) : RdG enc k w' v l := Rd.ext h hg
theorem OwnG.ext (h : OwnG enc k w B v l) (hg : w.grownBy w' none) : OwnG enc k w' B v l := Own.ext h hg
theorem OwnG.mono {B' : Nat} (h : OwnG enc k w B v l) (hB : B' ≤ B) : OwnG enc k w B' v l := Own.mono h hB
theorem RdG.form (h : RdG enc k w v l) : ∃ A c, v = .slice A l.length c := by obtain ⟨_, A, c, _, _, e, _⟩ := h; exact ⟨A, c, e⟩
theorem RdG.nil (enc : α → List Value) (k : Nat) (w : World) : RdG enc k w (.slice none 0 0) [] := Rd.nil _ _
theorem OwnG.nil (enc : α → List Value) (k : Nat) (w : World) (B : Nat) : OwnG enc k w B (.slice none 0 0) [] := Own.nil _ _ _
theorem RdG.at_ (hk : ∀ x, (enc x).length = k) {A : Option Addr} {c : Nat} (h : RdG enc k w (.slice A l.length c) l) : ∃ g off, (0 < l.length → A = some ⟨g, off, none⟩) ∧ l.length ≤ c ∧ ∀ i (hi : i < l.length), ∀ j, j < k → w.cell? ⟨g, off + i * k + j, none⟩ = (enc l[i])[j]? := by
  obtain ⟨_, _, _, g, off, e, hn, hc, _, hA, hx⟩ := h
  cases e
  refine ⟨g, off, fun h0 => hA (by omega), hn, fun i hi j hj => ?_⟩
  have hij : i * k + j < l.length * k := by
    have : (i + 1) * k ≤ l.length * k := Nat.mul_le_mul_right k hi
    rw [Nat.add_mul] at this; omega
  rw [Nat.add_assoc, hx _ hij, flat_at2 hk l hi hj]
end
end Go.Proofs.YtkpmadahfmpeiaaGreat
