/-
  Records of a journal: in memory, and as a sector's bytes.
-/
import Derived.Test.YtkfokgjpeaibpaaCrc
import Derived.Test.YtkfokgjpeaibpaaRef
namespace Go.Proofs.Ytkfokgjpeaibpaa
open Go.RowKit
set_option maxRecDepth 100000
set_option maxHeartbeats 400000

structure Rc where
  k : UInt32
  a : UInt32
  b : UInt32
def Rc.cells (r : Rc) : Array Value := #[.int .u32 r.k.toNat, .int .u32 r.a.toNat, .int .u32 r.b.toNat]
def rcL (l : List Rc) : List Value := l.flatMap fun r => r.cells.toList
def OwnR (w : World) (B : Nat) (v : Value) (l : List Rc) : Prop := Own w B 3 v l.length (rcL l)
def RdR (w : World) (v : Value) (l : List Rc) : Prop := Rd w 3 v l.length (rcL l)
theorem rcL_len (l : List Rc) : (rcL l).length = l.length * 3 := by
  induction l with
  | nil => rfl
  | cons r l ih =>
    have e : rcL (r :: l) = r.cells.toList ++ rcL l := rfl
    rw [e, List.length_append, ih]
    simp [Rc.cells]
    omega
theorem rcL_append (l m : List Rc) : rcL (l ++ m) = rcL l ++ rcL m := by simp [rcL]
theorem rcL_at (l : List Rc) {k j : Nat} (hk : k < l.length) (hj : j < 3) : (rcL l)[k * 3 + j]? = (l[k].cells)[j]? := by
  induction l generalizing k with
  | nil => simp at hk
  | cons r l ih =>
    have e : rcL (r :: l) = r.cells.toList ++ rcL l := rfl
    have hl : r.cells.toList.length = 3 := rfl
    cases k with
    | zero =>
      rw [e, List.getElem?_append_left (by omega)]
      simp
    | succ k =>
      rw [e, List.getElem?_append_right (by omega), hl, show (k + 1) * 3 + j - 3 = k * 3 + j from by omega]
      exact ih (by simpa using hk)
theorem rc_one (l : List Rc) : ∀ u ∈ rcL l, u.oneCell' = true := by
  intro u hu
  obtain ⟨r, _, h⟩ := List.mem_flatMap.1 hu
  simp [Rc.cells] at h
  rcases h with rfl | rfl | rfl <;> rfl
section
variable {w w' : World} {B : Nat} {v : Value} {l : List Rc}
theorem OwnR.rd (h : OwnR w B v l) : RdR w v l := Own.rd h
theorem OwnR.nil (w : World) (B : Nat) : OwnR w B (.slice none 0 0) [] := Own.nil _ _ _
theorem RdR.ext (h : RdR w v l) (hg : w.grownBy w' none) : RdR w' v l := Rd.ext h hg
theorem OwnR.ext (h : OwnR w B v l) (hg : w.grownBy w' none) : OwnR w' B v l := Own.ext h hg
theorem RdR.form (h : RdR w v l) : ∃ A c, v = .slice A l.length c := by obtain ⟨_, A, c, _, _, e, _⟩ := h; exact ⟨A, c, e⟩
theorem RdR.at_ {A : Option Addr} {c : Nat} (h : RdR w (.slice A l.length c) l) : ∃ g off, (0 < l.length → A = some ⟨g, off, none⟩) ∧ l.length ≤ c ∧ c ≤ maxLen ∧ ∀ k (hk : k < l.length), ∀ j, j < 3 → w.cell? ⟨g, off + k * 3 + j, none⟩ = (l[k].cells)[j]? := by
  obtain ⟨_, _, _, g, off, e, hn, hc, _, hA, hx⟩ := h
  cases e
  refine ⟨g, off, fun h0 => hA (by omega), hn, hc, fun k hk j hj => ?_⟩
  rw [Nat.add_assoc, hx _ (by omega), rcL_at l hk hj]
end
theorem ownR_app {w : World} {B : Nat} {v : Value} {l m : List Rc} (h : Own w B 3 v (l.length + m.length) (rcL l ++ rcL m)) : OwnR w B v (l ++ m) := by
  unfold OwnR; rw [List.length_append, rcL_append]; exact h
/-! as bytes -/
def secH (n : Nat) (r : Rc) : List UInt8 := le n 4 ++ le r.k.toNat 4 ++ le r.a.toNat 4 ++ le r.b.toNat 4 ++ List.replicate 44 0
def secB (n : Nat) (r : Rc) : List UInt8 := secH n r ++ le (crcS (secH n r)) 4
theorem secH_len (n : Nat) (r : Rc) : (secH n r).length = 60 := by simp [secH, length_le]
theorem secB_len (n : Nat) (r : Rc) : (secB n r).length = 64 := by simp [secB, secH_len, length_le]
def recOf (s : List UInt8) : Rc := ⟨UInt32.ofNat (rdN ((s.drop 4).take 4)), UInt32.ofNat (rdN ((s.drop 8).take 4)), UInt32.ofNat (rdN ((s.drop 12).take 4))⟩
/-- the records with which bytes begin, n of them read. -/
def readF : Nat → Nat → List UInt8 → List Rc
  | 0, _, _ => []
  | f + 1, n, b => if 64 ≤ b.length ∧ n < 65536 then (if (recOf (b.take 64)).k = 0 ∨ b.take 64 ≠ secB (n + 1) (recOf (b.take 64)) then [] else recOf (b.take 64) :: readF f (n + 1) (b.drop 64)) else []
def readJ (b : List UInt8) : List Rc := readF (b.length + 1) 0 b
end Go.Proofs.Ytkfokgjpeaibpaa
