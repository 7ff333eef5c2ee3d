/-
  A map of names to slices of the call's own (disk.On's 'left').
-/
import Derived.Test.YtfbbbbekialpnaaVm
import Derived.Test.YtfbbbbekialpnaaDi
namespace Go.Proofs.Ytfbbbbekialpnaa
open Go.RowKit Go.Maps
set_option maxRecDepth 100000

abbrev Nm := { s : List UInt8 // s.length ≤ maxLen }
def strK : KeyK Try.prog 9 Nm where
  kv x := .string ⟨x.1.toArray⟩
  kl x := .string x.1
  key x := keyS x.2
  inv v l h := by
    obtain ⟨s, rfl, rfl, hs⟩ := keyS_inv h
    exact ⟨⟨s, hs⟩, rfl, rfl⟩
  inj x y h := Subtype.ext (by simpa using h)
  isK _ := trivial
  keyed := Try.keyedS
def domL (has : List UInt8 → Bool) (val : List UInt8 → Value) : Nm → Option Value := fun x => if has x.1 = true then some (val x.1) else none
structure LI (w : World) (B m n : Nat) (has : List UInt8 → Bool) (val : List UInt8 → Value) (L : List UInt8 → List UInt8) (q : Nat → Option (List UInt8)) : Prop where
  map : VM strK w m n (domL has val)
  own : ∀ s, has s = true → OwnB w B (val s) (L s)
  tag : ∀ s, has s = true → ∀ b, blk (val s) = some b → q b = some s
  inb : ∀ i, q i ≠ none → B ≤ i ∧ i < w.heap.size ∧ i ≠ m
  mB : B ≤ m
/-- what is s's alone, and new blocks, were written. -/
structure Tn (q : Nat → Option (List UInt8)) (s : List UInt8) (w w' : World) : Prop where
  os : w'.os = w.os
  tape : w'.tape = w.tape
  output : w'.output = w.output
  size : w.heap.size ≤ w'.heap.size
  block : ∀ i, i < w.heap.size → q i ≠ some s → w'.heap[i]? = w.heap[i]?
section
variable {w w' w'' : World} {B m n : Nat} {has : List UInt8 → Bool} {val : List UInt8 → Value} {L : List UInt8 → List UInt8} {q : Nat → Option (List UInt8)} {s : List UInt8}
theorem Tn.of_gr {r : Option Nat} (h : w.grownBy w' r) (hr : ∀ k, r = some k → q k = some s ∨ w.heap.size ≤ k) : Tn q s w w' :=
  ⟨h.os, h.tape, h.output, h.size, fun i hi hq => h.block i hi (fun e => by rcases hr i e.symm with h | h; exact hq h; omega)⟩
/-- a second write, to a block of s's or to one that is new since w. -/
theorem Tn.more {r : Option Nat} (h : Tn q s w w') (k : w'.grownBy w'' r) (hr : ∀ j, r = some j → q j = some s ∨ w.heap.size ≤ j) : Tn q s w w'' :=
  ⟨k.os.trans h.os, k.tape.trans h.tape, k.output.trans h.output, Nat.le_trans h.size k.size, fun i hi hq => (k.block i (Nat.lt_of_lt_of_le hi h.size) (fun e => by rcases hr i e.symm with h | h; exact hq h; omega)).trans (h.block i hi hq)⟩
theorem LI.lt (h : LI w B m n has val L q) : m < w.heap.size := h.map.lt
theorem LI.ext (h : LI w B m n has val L q) (hg : w.grownBy w' none) : LI w' B m n has val L q :=
  ⟨h.map.ext hg, fun s hs => (h.own s hs).ext hg, h.tag, fun i hi => ⟨(h.inb i hi).1, Nat.lt_of_lt_of_le (h.inb i hi).2.1 hg.size, (h.inb i hi).2.2⟩, h.mB⟩
theorem LI.mono (h : LI w B m n has val L q) {n' : Nat} (hn : n ≤ n') : LI w B m n' has val L q := { h with map := h.map.mono hn }
theorem LI.made (w : World) (B : Nat) (hB : B ≤ w.heap.size) (val : List UInt8 → Value) (L : List UInt8 → List UInt8) : LI (w.alloc (.map #[] 0)) B w.heap.size 0 (fun _ => false) val L (fun _ => none) :=
  ⟨VM.made strK w, fun s h => (by cases h), fun s h => (by cases h), fun i h => absurd rfl h, hB⟩
/-- m[s] = v, where v's cells are s's own or new. -/
theorem LI.turn (h : LI w B m n has val L q) (ht : Tn q s w w') {v : Value} {l : List UInt8} (hv : OwnB w' B v l) (hb : ∀ b, blk v = some b → q b = some s ∨ w.heap.size ≤ b) (hs : s.length ≤ maxLen) (hg2 : w'.grownBy w'' (some m))
    (hm : VM strK w'' m (n + 1) (fun z => if z = (⟨s, hs⟩ : Nm) then some v else domL has val z)) :
    ∃ q', LI w'' B m (n + 1) (fun x => has x || x == s) (fun x => if x = s then v else val x) (fun x => if x = s then l else L x) q' ∧ (∀ i, i < w.heap.size → q' i = q i) := by
  have hfr : ∀ i, w.heap.size ≤ i → q i = none := fun i hi => by
    cases e : q i with
    | none => rfl
    | some t => exact absurd (h.inb i (by rw [e]; simp)).2.1 (by omega)
  have hmlt := h.lt
  have hbm : ∀ b, blk v = some b → b ≠ m := fun b hb' e => by
    rcases hb b hb' with h1 | h1
    · exact (h.inb b (by rw [h1]; simp)).2.2 e
    · omega
  obtain ⟨q', hq'⟩ : ∃ q' : Nat → Option (List UInt8), q' = fun i => if w.heap.size ≤ i then (if blk v = some i then some s else none) else q i := ⟨_, rfl⟩
  have hold : ∀ i, i < w.heap.size → q' i = q i := fun i hi => by rw [hq']; exact if_neg (by omega)
  have hvt : ∀ b, blk v = some b → q' b = some s := fun b hb' => by
    rcases hb b hb' with h1 | h1
    · rw [hold b (h.inb b (by rw [h1]; simp)).2.1]; exact h1
    · rw [hq']; show (if w.heap.size ≤ b then (if blk v = some b then some s else none) else q b) = _
      rw [if_pos h1, if_pos hb']
  refine ⟨q', ⟨?_, fun x hx => ?_, fun x hx b hb' => ?_, fun i hi => ?_, h.mB⟩, hold⟩
  · refine (show (fun z => if z = (⟨s, hs⟩ : Nm) then some v else domL has val z) = domL (fun x => has x || x == s) (fun x => if x = s then v else val x) from ?_) ▸ hm
    funext z
    obtain ⟨z, hz⟩ := z
    unfold domL
    by_cases e : z = s
    · subst e
      rw [if_pos rfl, if_pos (by simp)]
      show some v = some (if z = z then v else val z)
      rw [if_pos rfl]
    · have : ¬ (⟨z, hz⟩ : Nm) = ⟨s, hs⟩ := fun e' => e (by simpa using e')
      rw [if_neg this]
      simp [e]
  · show OwnB w'' B (if x = s then v else val x) (if x = s then l else L x)
    by_cases e : x = s
    · rw [if_pos e, if_pos e]
      exact Own.off hv hg2 (fun k hk => by cases hk; exact fun hb' => hbm m hb' rfl)
    · rw [if_neg e, if_neg e]
      have hx' : has x = true := by simpa [e] using hx
      refine Own.same (h.own x hx') fun k hk => ?_
      have hkt := h.tag x hx' k hk
      have hk2 := h.inb k (by rw [hkt]; simp)
      rw [hg2.block k (Nat.lt_of_lt_of_le hk2.2.1 ht.size) (fun e' => hk2.2.2 (by cases e'; rfl)), ht.block k hk2.2.1 (fun e' => e (by rw [hkt] at e'; simpa using e'))]
  · have hb2 : blk (if x = s then v else val x) = some b := hb'
    by_cases e : x = s
    · rw [if_pos e] at hb2
      rw [hvt b hb2, e]
    · rw [if_neg e] at hb2
      have hx' : has x = true := by simpa [e] using hx
      have hkt := h.tag x hx' b hb2
      rw [hold b (h.inb b (by rw [hkt]; simp)).2.1, hkt]
  · by_cases hlt : i < w.heap.size
    · rw [hold i hlt] at hi
      exact ⟨(h.inb i hi).1, Nat.lt_of_lt_of_le hlt (Nat.le_trans ht.size hg2.size), (h.inb i hi).2.2⟩
    · rw [hq'] at hi
      have hi2 : (if w.heap.size ≤ i then (if blk v = some i then some s else none) else q i) ≠ none := hi
      rw [if_pos (by omega)] at hi2
      by_cases hbv : blk v = some i
      · have hlt2 := Own.blk_lt hv (by omega) hbv
        exact ⟨hlt2.1, Nat.lt_of_lt_of_le hlt2.2 hg2.size, hbm i hbv⟩
      · rw [if_neg hbv] at hi2; exact absurd rfl hi2
end
end Go.Proofs.Ytfbbbbekialpnaa
