/-
  disk.On.
-/
import Derived.Test.YtkfokgjpeaibpaaOn3a
import Derived.Test.YtkfokgjpeaibpaaB
import Derived.Shelf.SlSortCmp.WholeK
import Derived.Test.YtkfokgjpeaibpaaOnC
import Derived.Shelf.SlSortCmp.NoneTotal
import Derived.Test.YtkfokgjpeaibpaaVm
namespace Go.Proofs.Ytkfokgjpeaibpaa
open Go.RowKit Go.Maps
set_option maxRecDepth 100000
set_option maxHeartbeats 400000
section
variable {w : World} {B d : Nat} {o : Own1} {S : Dk} {c : Con}
end
end Go.Proofs.Ytkfokgjpeaibpaa

/- slices.SortFunc at rows of structs, in this seat's words of memory. -/
namespace Go.Proofs.Ytkfokgjpeaibpaa
open Go.RowKit Go.Sort Go.Shelf
set_option maxRecDepth 100000

section
variable {α : Type} {enc : α → List Value} {k : Nat}
theorem flat_len (hk : ∀ x, (enc x).length = k) (l : List α) : (l.flatMap enc).length = l.length * k := by
  induction l with
  | nil => simp
  | cons a l ih => rw [List.flatMap_cons, List.length_append, hk, ih, List.length_cons, Nat.add_mul]; omega
theorem flat_at (hk : ∀ x, (enc x).length = k) (l : List α) {i j : Nat} (hi : i < l.length) (hj : j < k) : (l.flatMap enc)[i * k + j]? = (enc l[i])[j]? := by
  induction l generalizing i with
  | nil => simp at hi
  | cons a l ih =>
    rw [List.flatMap_cons]
    cases i with
    | zero => rw [Nat.zero_mul, Nat.zero_add, List.getElem?_append_left (by rw [hk]; exact hj)]; rfl
    | succ i =>
      rw [List.getElem?_append_right (by rw [hk, Nat.add_mul]; omega), hk, show (i + 1) * k + j - k = i * k + j from by rw [Nat.add_mul]; omega]
      exact ih (by simpa using hi)
variable [Inhabited α]
theorem flatK_at (hk : ∀ x, (enc x).length = k) (l : List α) {t : Nat} (ht : t < l.length * k) : some ((flatK enc k l.toArray)[t]!) = (l.flatMap enc)[t]? := by
  have hk0 : 0 < k := by
    rcases Nat.eq_zero_or_pos k with e | e
    · subst e; simp at ht
    · exact e
  have hi : t / k < l.length := (Nat.div_lt_iff_lt_mul hk0).2 ht
  have hj : t % k < k := Nat.mod_lt _ hk0
  rw [get_flatK enc k l.toArray t (by simpa using ht)]
  have e : t / k * k + t % k = t := Nat.div_add_mod' t k
  conv => rhs; rw [← e]
  rw [flat_at hk l hi hj]
  have hx : (enc l[t / k]).length = k := hk _
  rw [List.getElem?_eq_getElem (by omega)]
  congr 1
  rw [show l.toArray[t / k]! = l[t / k] from by simp [hi]]
  rw [List.getElem!_eq_getElem?_getD, List.getElem?_eq_getElem (by omega)]
  rfl
theorem own_holds (hk : ∀ x, (enc x).length = k) {w : World} {B blk off c : Nat} {l : List α} (h : Go.Proofs.Ytkfokgjpeaibpaa.Own w B k (.slice (some ⟨blk, off, none⟩) l.length c) l.length (l.flatMap enc)) (h0 : 0 < l.length) : HoldsK enc k w blk off l.toArray := by
  obtain ⟨hl, A, c', g, off', e, hn, hc, hA0, hA, hb, hx, hf⟩ := h
  cases e
  have := hA (by omega)
  cases this
  intro j hj
  have hj' : j < l.length * k := by simpa [flatK] using hj
  refine ⟨?_, (hf j (Nat.lt_of_lt_of_le hj' (Nat.mul_le_mul_right k hn))).2⟩
  rw [hx j hj', ← flatK_at hk l hj']
  rfl
theorem perm_of (l : List α) (d' : Array α) (h : PermIn 0 l.length l.toArray d') : d'.toList.Perm l ∧ d'.size = l.length := by
  obtain ⟨h1, _, h3⟩ := h
  have hs : d'.size = l.length := by simpa using h1
  refine ⟨?_, hs⟩
  have e1 : d'.extract 0 l.length = d' := by rw [← hs]; simp
  have e2 : l.toArray.extract 0 l.length = l.toArray := by simp
  rw [e1, e2] at h3
  exact h3
theorem gr_sortWorld (w : World) (blk off n : Nat) (d' : Array α) (os : Array Obj) : w.grownBy (sortWorldK enc k w blk off n d' os) (some blk) := by
  unfold sortWorldK putRowK putRow mapBlock Go.Sort.grow Go.Sort.ahead
  refine ⟨rfl, rfl, rfl, by simp, fun i hi hne => ?_⟩
  show (w.heap.modify blk _ ++ os)[i]? = _
  rw [Array.getElem?_append_left (by simpa using hi), Array.getElem?_modify, if_neg (fun e => hne (by rw [e]))]
theorem own_sorted (hk : ∀ x, (enc x).length = k) {w : World} {B blk off c : Nat} {l : List α} (h : Go.Proofs.Ytkfokgjpeaibpaa.Own w B k (.slice (some ⟨blk, off, none⟩) l.length c) l.length (l.flatMap enc)) (h0 : 0 < l.length) (hblk : blk < w.heap.size) {d' : Array α} (hp : PermIn 0 l.length l.toArray d') (n : Nat) (os : Array Obj) :
    Go.Proofs.Ytkfokgjpeaibpaa.Own (sortWorldK enc k w blk off n d' os) B k (.slice (some ⟨blk, off, none⟩) l.length c) l.length (d'.toList.flatMap enc) := by
  obtain ⟨hpm, hs⟩ := perm_of l d' hp
  have hH := own_holds hk h h0
  obtain ⟨hl, A, c', g, off', e, hn, hc, hA0, hA, hb, hx, hf⟩ := h
  cases e
  have := hA (by omega)
  cases this
  have hH2 : HoldsK enc k (sortWorldK enc k w blk off n d' os) blk off d' := by
    unfold sortWorldK
    exact holdsK_grow enc k _ os blk off d' (by simpa [putRowK, putRow, mapBlock, Go.Sort.ahead] using hblk) (holdsK_putRowK enc k (Go.Sort.ahead w n) blk off l.toArray d' (holdsK_ahead enc k w n blk off _ hH) (by simpa using hs))
  have hdl : d'.toList.length = l.length := by simpa using hs
  refine ⟨by rw [flat_len hk, hdl], _, c, blk, off, rfl, hn, hc, hA0, fun _ => rfl, hb, fun j hj => ?_, fun j hj => ?_⟩
  · have hj' : j < (flatK enc k d').size := by simpa [flatK, hs] using hj
    have := (hH2 j hj').1
    rw [this]
    have e := flatK_at hk d'.toList (t := j) (by rw [hdl]; exact hj)
    simpa using e
  · by_cases hj2 : j < l.length * k
    · have hj' : j < (flatK enc k d').size := by simpa [flatK, hs] using hj2
      have := hH2 j hj'
      exact ⟨by rw [this.1]; rfl, this.2⟩
    · have e1 : (sortWorldK enc k w blk off n d' os).cell? ⟨blk, off + j, none⟩ = w.cell? ⟨blk, off + j, none⟩ := by
        unfold sortWorldK
        have hsz : (putRowK enc k (Go.Sort.ahead w n) blk off d').heap.size = w.heap.size := by simp [putRowK, putRow, mapBlock, Go.Sort.ahead]
        rw [Go.Sort.cell?_grow _ os _ (by rw [hsz]; exact hblk)]
        exact cell?_putRow_other id (Go.Sort.ahead w n) blk off _ _ (.inr (.inr (by simp [flatK, hs]; omega)))
      have e2 : (sortWorldK enc k w blk off n d' os).frozen? ⟨blk, off + j, none⟩ = w.frozen? ⟨blk, off + j, none⟩ := by
        unfold sortWorldK
        have hsz : (putRowK enc k (Go.Sort.ahead w n) blk off d').heap.size = w.heap.size := by simp [putRowK, putRow, mapBlock, Go.Sort.ahead]
        rw [Go.Sort.frozen?_grow _ os _ (by rw [hsz]; exact hblk)]
        exact frozen?_putRow id (Go.Sort.ahead w n) blk off _ _
      rw [e1, e2]
      exact hf j hj
end
end Go.Proofs.Ytkfokgjpeaibpaa

/- What slices.SortFunc does with rows of sectors. -/
namespace Go.Proofs
open Go.Shelf
namespace Ytkfokgjpeaibpaa
open Go.RowKit Go.Sort Go.Shelf Go.Maps
set_option maxRecDepth 100000
end Ytkfokgjpeaibpaa
end Go.Proofs

/- A disk seen from an older world: Arm, Quota, Dead, and all operations in that form. -/
namespace Go.Proofs.Ytkfokgjpeaibpaa
open Go.RowKit
set_option maxRecDepth 100000
set_option maxHeartbeats 400000

section
variable {w : World} {B d : Nat} {o : Own1} {S : Dk} {c : Con}
end

/-- a disk, seen from an older world in which nothing was its own. -/
structure DA (w0 : World) (d : Nat) (o : Own1) (S : Dk) (w : World) : Prop where
  di : ∃ c, DI w w0.heap.size o d S c
  gr : w0.grownBy w none
def DP (w0 : World) (d : Nat) (o : Own1) (S : Dk) (w w' : World) : Prop := ∃ o', DA w0 d o' S w' ∧ Ch o w o' w'
section
variable {w0 w w1 : World} {d : Nat} {o : Own1} {S S' : Dk}
theorem DA.own0 (h : DA w0 d o S w) : ∀ i, o i ≠ none → w0.heap.size ≤ i := fun i hi => by obtain ⟨c, h⟩ := h.di; exact (h.inb i hi).1
theorem DA.own1 (h : DA w0 d o S w) : ∀ i, o i ≠ none → i < w.heap.size := fun i hi => by obtain ⟨c, h⟩ := h.di; exact (h.inb i hi).2
theorem DA.fresh (h : DA w0 d o S w) {i : Nat} (hi : w.heap.size ≤ i) : o i = none := by
  cases e : o i with
  | none => rfl
  | some t => exact absurd (h.own1 i (by rw [e]; simp)) (by omega)
theorem DA.out (h : DA w0 d o S w) (hd : DOut o w w0.heap.size d S' w1) : DP w0 d o S' w w1 := by
  obtain ⟨o', c', h1, ch⟩ := hd
  exact ⟨o', ⟨⟨c', h1⟩, ch.gr h.gr h.own0⟩, ch⟩
theorem DA.ext (h : DA w0 d o S w) (g : w.grownBy w1 none) : DA w0 d o S w1 := by
  obtain ⟨⟨c, h1⟩, h2⟩ := h
  exact ⟨⟨c, h1.ext g⟩, gr_none h2 g⟩
theorem DA.new (q : Nat) (w : World) (hq : q ≤ 1048576) : Calls Try.prog 19 #[.int .i64 q] w fun e w' => ∃ d o, e = .returned (.tuple #[.pointer (some ⟨d, 0, none⟩), .int .i64 0]) ∧ DA w d o (newD q) w' :=
  (new_ok q w hq).mono fun _ _ ⟨d, o, c, e, h1, h2⟩ => ⟨d, o, e, ⟨c, h1⟩, h2⟩
theorem DA.create (h : DA w0 d o S w) (n : List UInt8) (hn : n.length ≤ 1000000000) (hfl : S.fs.length ≤ 1000000) :
    Calls Try.prog 55 #[.pointer (some ⟨d, 0, none⟩), .string ⟨n.toArray⟩] w fun e w' => e = .returned (.int .i64 (S.create n).2) ∧ DP w0 d o (S.create n).1 w w' := by
  obtain ⟨c, h1⟩ := h.di
  exact (create_any h1 n hn hfl).mono fun _ _ ⟨e, k⟩ => ⟨e, h.out k⟩
theorem DA.sync (h : DA w0 d o S w) (n : List UInt8) (hn : n.length ≤ 1000000000) :
    Calls Try.prog 61 #[.pointer (some ⟨d, 0, none⟩), .string ⟨n.toArray⟩] w fun e w' => e = .returned (.int .i64 (S.sync n).2) ∧ DP w0 d o (S.sync n).1 w w' := by
  obtain ⟨c, h1⟩ := h.di
  exact (sync_any h1 n hn).mono fun _ _ ⟨e, k⟩ => ⟨e, h.out k⟩
theorem DA.used (h : DA w0 d o S w) (hfl : S.fs.length ≤ 1000000) : Calls Try.prog 83 #[.pointer (some ⟨d, 0, none⟩)] w fun e w' => e = .returned (.int .i64 S.used) ∧ w.grownBy w' none := by
  obtain ⟨c, h1⟩ := h.di
  exact used_any h1 hfl
theorem DA.size (h : DA w0 d o S w) (n : List UInt8) (hn : n.length ≤ 1000000000) :
    Calls Try.prog 67 #[.pointer (some ⟨d, 0, none⟩), .string ⟨n.toArray⟩] w fun e w' => e = .returned (.tuple #[.int .i64 (S.size n).1, .int .i64 (S.size n).2]) ∧ w.grownBy w' none := by
  obtain ⟨c, h1⟩ := h.di
  exact size_any h1 n hn
theorem DA.read (h : DA w0 d o S w) (n : List UInt8) (hn : n.length ≤ 1000000000) (off k : Int) (ho : -9223372036854775808 ≤ off ∧ off ≤ 9223372036854775807) (hk : -9223372036854775808 ≤ k ∧ k ≤ 9223372036854775807) :
    Calls Try.prog 68 #[.pointer (some ⟨d, 0, none⟩), .string ⟨n.toArray⟩, .int .i64 off, .int .i64 k] w fun e w' =>
      (∃ v, e = .returned (.tuple #[v, .int .i64 (S.read n off k).2]) ∧ OwnB w' w.heap.size v (S.read n off k).1) ∧ w.grownBy w' none := by
  obtain ⟨c, h1⟩ := h.di
  exact read_any h1 n hn off k ho hk
/-- b: bytes in new memory. -/
theorem DA.write (h : DA w0 d o S w1) (g : w1.grownBy w none) (n : List UInt8) (hn : n.length ≤ 1000000000) (off : Int) (hoff : -9223372036854775808 ≤ off ∧ off ≤ 9223372036854775807) {bv : Value} {b : List UInt8} (hb : OwnB w w1.heap.size bv b) (hbl : b.length ≤ 1000000000000)
    (hfl : S.fs.length ≤ 1000000) (hnl : S.nl ≤ 1000000000) :
    Calls Try.prog 72 #[.pointer (some ⟨d, 0, none⟩), .string ⟨n.toArray⟩, .int .i64 off, bv] w fun e w' => e = .returned (.int .i64 (S.write n off b).2) ∧ DP w0 d o (S.write n off b).1 w w' := by
  have h2 := h.ext g
  obtain ⟨c, h1⟩ := h2.di
  exact (write_any h1 n hn off hoff bv b hb.rd (fun k hk => by
    have := Own.blk_lt hb (by omega) hk
    exact ⟨this.2, h.fresh this.1⟩) hbl hfl (by omega)).mono fun _ _ ⟨e, k⟩ => ⟨e, h2.out k⟩
end
end Go.Proofs.Ytkfokgjpeaibpaa

/- Rows of structs in memory. -/
namespace Go.Proofs.Ytkfokgjpeaibpaa
open Go.RowKit
set_option maxRecDepth 100000
set_option maxHeartbeats 400000

/-! rows of structs -/
section
variable {α : Type} {enc : α → List Value} {k : Nat}
theorem flat_len2 (hk : ∀ x, (enc x).length = k) (l : List α) : (l.flatMap enc).length = l.length * k := by
  induction l with
  | nil => simp
  | cons a l ih => rw [List.flatMap_cons, List.length_append, hk, ih, List.length_cons, Nat.add_mul]; omega
theorem flat_at2 (hk : ∀ x, (enc x).length = k) (l : List α) {i j : Nat} (hi : i < l.length) (hj : j < k) : (l.flatMap enc)[i * k + j]? = (enc l[i])[j]? := by
  induction l generalizing i with
  | nil => simp at hi
  | cons a l ih =>
    rw [List.flatMap_cons]
    cases i with
    | zero => rw [Nat.zero_mul, Nat.zero_add, List.getElem?_append_left (by rw [hk]; exact hj)]; rfl
    | succ i =>
      rw [List.getElem?_append_right (by rw [hk, Nat.add_mul]; omega), hk, show (i + 1) * k + j - k = i * k + j from by rw [Nat.add_mul]; omega]
      exact ih (by simpa using hi)
/-- a slice that reads as rows. -/
def RdG (enc : α → List Value) (k : Nat) (w : World) (v : Value) (l : List α) : Prop := Rd w k v l.length (l.flatMap enc)
def OwnG (enc : α → List Value) (k : Nat) (w : World) (B : Nat) (v : Value) (l : List α) : Prop := Own w B k v l.length (l.flatMap enc)
variable {w w' : World} {B : Nat} {v : Value} {l : List α}
theorem OwnG.rd (h : OwnG enc k w B v l) : RdG enc k w v l := Own.rd h
theorem RdG.ext (h : RdG enc k w v l) (hg : w.grownBy w' none) : RdG enc k w' v l := Rd.ext h hg
theorem OwnG.ext (h : OwnG enc k w B v l) (hg : w.grownBy w' none) : OwnG enc k w' B v l := Own.ext h hg
theorem OwnG.mono {B' : Nat} (h : OwnG enc k w B v l) (hB : B' ≤ B) : OwnG enc k w B' v l := Own.mono h hB
theorem RdG.form (h : RdG enc k w v l) : ∃ A c, v = .slice A l.length c := by obtain ⟨_, A, c, _, _, e, _⟩ := h; exact ⟨A, c, e⟩
theorem RdG.nil (enc : α → List Value) (k : Nat) (w : World) : RdG enc k w (.slice none 0 0) [] := Rd.nil _ _
theorem OwnG.nil (enc : α → List Value) (k : Nat) (w : World) (B : Nat) : OwnG enc k w B (.slice none 0 0) [] := Own.nil _ _ _
theorem RdG.at_ (hk : ∀ x, (enc x).length = k) {A : Option Addr} {c : Nat} (h : RdG enc k w (.slice A l.length c) l) : ∃ g off, (0 < l.length → A = some ⟨g, off, none⟩) ∧ l.length ≤ c ∧ ∀ i (hi : i < l.length), ∀ j, j < k → w.cell? ⟨g, off + i * k + j, none⟩ = (enc l[i])[j]? := by
  obtain ⟨_, _, _, g, off, e, hn, hc, _, hA, hx⟩ := h
  cases e
  refine ⟨g, off, fun h0 => hA (by omega), hn, fun i hi j hj => ?_⟩
  have hij : i * k + j < l.length * k := by
    have : (i + 1) * k ≤ l.length * k := Nat.mul_le_mul_right k hi
    rw [Nat.add_mul] at this; omega
  rw [Nat.add_assoc, hx _ hij, flat_at2 hk l hi hj]
end
end Go.Proofs.Ytkfokgjpeaibpaa
