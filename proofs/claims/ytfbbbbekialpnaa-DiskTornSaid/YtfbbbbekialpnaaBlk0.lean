/-
  Which block a slice may be written in.
-/
import Derived.Test.YtfbbbbekialpnaaApp
namespace Go.Proofs.Ytfbbbbekialpnaa
open Go.RowKit
set_option maxRecDepth 100000

/-- what append says of one byte more. -/
def App1 (w w' : World) (n m : Nat) (v v' : Value) : Prop :=
  (∃ A c, v = .slice A n c ∧ v' = .slice A (n + m) c ∧ w.grownBy w' v.ownBlock) ∨ ∃ k, v'.ownBlock = some k ∧ w.heap.size ≤ k ∧ w.grownBy w' none
/-- the block that a slice's cells stand in, if it has room for any. -/
def blk : Value → Option Nat
  | .slice (some a) _ c => if c = 0 then none else some a.block
  | _ => none
section
variable {w w' : World} {B s n : Nat} {v v' : Value} {xs : List Value}
theorem Own.off (h : Own w B s v n xs) {r : Option Nat} (hg : w.grownBy w' r) (hr : ∀ k, r = some k → blk v ≠ some k) : Own w' B s v n xs := by
  obtain ⟨A, c, rfl⟩ : ∃ A c, v = .slice A n c := by obtain ⟨_, A, c, _, _, e, _⟩ := h; exact ⟨A, c, e⟩
  refine Own.far h hg fun k a e e' h0 e2 => hr k e ?_
  subst e'
  simp [blk, e2]
  omega
theorem Own.blk_lt (h : Own w B s v n xs) (hs : 0 < s) {k : Nat} (hk : blk v = some k) : B ≤ k ∧ k < w.heap.size := by
  obtain ⟨A, c, rfl⟩ : ∃ A c, v = .slice A n c := by obtain ⟨_, A, c, _, _, e, _⟩ := h; exact ⟨A, c, e⟩
  cases A with
  | none => cases hk
  | some a =>
    by_cases h0 : c = 0
    · simp [blk, h0] at hk
    · simp [blk, h0] at hk
      subst hk
      exact ⟨Own.lt h _ rfl, Own.in_ h hs (by omega)⟩
theorem Own.blk_some (h : Own w B s v n xs) (h0 : 0 < n) : ∃ k, blk v = some k := by
  obtain ⟨_, A, c, g, off, rfl, hn, _, hA0, hA, _⟩ := h
  have := hA (by omega)
  subst this
  exact ⟨g, by simp [blk]; omega⟩
/-- what a write onto a slice's end says: only its own block was struck, and where the longer one stands. -/
def Ext (w w' : World) (v u : Value) : Prop :=
  ∃ r, w.grownBy w' r ∧ (∀ k, r = some k → blk v = some k) ∧ ∃ ku, blk u = some ku ∧ (blk v = some ku ∨ w.heap.size ≤ ku)
theorem ext_of_app {m : Nat} (ho : Own w' B s v' (n + m) xs) (hm : 0 < m) (h : App1 w w' n m v v') : Ext w w' v v' := by
  obtain ⟨ku, hku⟩ := ho.blk_some (by omega)
  rcases h with ⟨A, c, rfl, rfl, g⟩ | ⟨k, e, hk, g⟩
  · have hc := ho.cap
    cases A with
    | none => cases hku
    | some a =>
      have e : (if c = 0 then none else some a.block) = some a.block := if_neg (by omega)
      refine ⟨some a.block, g, fun k hk => by rw [← hk]; exact e, a.block, e, .inl e⟩
  · refine ⟨none, g, fun k hk => (by cases hk), ku, hku, .inr ?_⟩
    obtain ⟨A, c, rfl⟩ : ∃ A c, v' = .slice A (n + m) c := by obtain ⟨_, A, c, _, _, e, _⟩ := ho; exact ⟨A, c, e⟩
    cases A with
    | none => cases e
    | some a =>
      have hc := ho.cap
      have e2 : (if c = 0 then none else some a.block) = some ku := hku
      rw [if_neg (by omega)] at e2
      cases e2
      cases e
      exact hk
theorem Ext.none_of {r : Option Nat} {W0 : World} (h : Ext w w' v v') (hg : W0.grownBy w r) (hv : ∀ k, blk v = some k → W0.heap.size ≤ k) : W0.grownBy w' r := by
  obtain ⟨r', g, hr, _⟩ := h
  exact gr_trans hg g (.inr fun k e => hv k (hr k e))
end
end Go.Proofs.Ytfbbbbekialpnaa
