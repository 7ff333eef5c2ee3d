/-
  Rows of structs in memory.
-/
import Derived.Test.YthkajgangnmbdaaB
namespace Go.Proofs.Ythkajgangnmbdaa
open Go.RowKit
set_option maxRecDepth 100000
set_option maxHeartbeats 400000

/-! rows of structs -/
section
variable {α : Type} {enc : α → List Value} {k : Nat}
theorem flat_len (hk : ∀ x, (enc x).length = k) (l : List α) : (l.flatMap enc).length = l.length * k := by
  induction l with
  | nil => simp
  | cons a l ih => rw [List.flatMap_cons, List.length_append, hk, ih, List.length_cons, Nat.add_mul]; omega
theorem flat_at (hk : ∀ x, (enc x).length = k) (l : List α) {i j : Nat} (hi : i < l.length) (hj : j < k) : (l.flatMap enc)[i * k + j]? = (enc l[i])[j]? := by
  induction l generalizing i with
  | nil => simp at hi
  | cons a l ih =>
    rw [List.flatMap_cons]
    cases i with
    | zero => rw [Nat.zero_mul, Nat.zero_add, List.getElem?_append_left (by rw [hk]; exact hj)]; rfl
    | succ i =>
      rw [List.getElem?_append_right (by rw [hk, Nat.add_mul]; omega), hk, show (i + 1) * k + j - k = i * k + j from by rw [Nat.add_mul]; omega]
      exact ih (by simpa using hi)
/-- a slice that reads as rows. -/
def RdG (enc : α → List Value) (k : Nat) (w : World) (v : Value) (l : List α) : Prop := Rd w k v l.length (l.flatMap enc)
def OwnG (enc : α → List Value) (k : Nat) (w : World) (B : Nat) (v : Value) (l : List α) : Prop := Own w B k v l.length (l.flatMap enc)
variable {w w' : World} {B : Nat} {v : Value} {l : List α}
theorem OwnG.rd (h : OwnG enc k w B v l) : RdG enc k w v l := Own.rd h
theorem RdG.ext (h : RdG enc k w v l) (hg : w.grownBy w' none) : RdG enc k w' v l := Rd.ext h hg
theorem OwnG.ext (h : OwnG enc k w B v l) (hg : w.grownBy w' none) : OwnG enc k w' B v l := Own.ext h hg
theorem OwnG.mono {B' : Nat} (h : OwnG enc k w B v l) (hB : B' ≤ B) : OwnG enc k w B' v l := Own.mono h hB
theorem RdG.form (h : RdG enc k w v l) : ∃ A c, v = .slice A l.length c := by obtain ⟨_, A, c, _, _, e, _⟩ := h; exact ⟨A, c, e⟩
theorem RdG.nil (enc : α → List Value) (k : Nat) (w : World) : RdG enc k w (.slice none 0 0) [] := Rd.nil _ _
theorem OwnG.nil (enc : α → List Value) (k : Nat) (w : World) (B : Nat) : OwnG enc k w B (.slice none 0 0) [] := Own.nil _ _ _
theorem RdG.at_ (hk : ∀ x, (enc x).length = k) {A : Option Addr} {c : Nat} (h : RdG enc k w (.slice A l.length c) l) : ∃ g off, (0 < l.length → A = some ⟨g, off, none⟩) ∧ l.length ≤ c ∧ ∀ i (hi : i < l.length), ∀ j, j < k → w.cell? ⟨g, off + i * k + j, none⟩ = (enc l[i])[j]? := by
  obtain ⟨_, _, _, g, off, e, hn, hc, _, hA, hx⟩ := h
  cases e
  refine ⟨g, off, fun h0 => hA (by omega), hn, fun i hi j hj => ?_⟩
  have hij : i * k + j < l.length * k := by
    have : (i + 1) * k ≤ l.length * k := Nat.mul_le_mul_right k hi
    rw [Nat.add_mul] at this; omega
  rw [Nat.add_assoc, hx _ hij, flat_at hk l hi hj]
end
end Go.Proofs.Ythkajgangnmbdaa
