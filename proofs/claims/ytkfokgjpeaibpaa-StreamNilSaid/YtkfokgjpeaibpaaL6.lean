/-
  What the disk's laws share: twin, same, works.
-/
import Derived.Test.YtkfokgjpeaibpaaDa
import Derived.Test.YtkfokgjpeaibpaaOne
import Derived.Test.YtkfokgjpeaibpaaDk
namespace Go.Proofs.Ytkfokgjpeaibpaa
open Go.RowKit
set_option maxRecDepth 100000
set_option maxHeartbeats 400000

theorem LsIs.in_ {S : Dk} {ls : List Sec} (h : LsIs S ls) (hli : LooseIn S) : ∀ x ∈ ls, x.page.toNat * 64 < (S.nowOf x.name).length := fun x hx => by
  obtain ⟨s, p⟩ := x
  obtain ⟨f, h1, h2, h3⟩ := hli s _ ((h.2.1 s _ (h.2.2 _ hx)).2 ⟨p, hx, rfl⟩)
  rw [nowOf_some h1]
  omega
/-- nothing but draws. -/
def DrewS (w w' : World) : Prop := ∃ q, w' = w.drewN q
theorem RdB.at_ {w : World} {A : Option Addr} {c : Nat} {l : List UInt8} (h : RdB w (.slice A l.length c) l) : ∃ g off, (0 < l.length → A = some ⟨g, off, none⟩) ∧ l.length ≤ c ∧ c ≤ maxLen ∧ ∀ k (hk : k < l.length), w.cell? ⟨g, off + k, none⟩ = some (.int .u8 l[k].toNat) := by
  obtain ⟨hl, A', c', g, off, e, hn, hc, hA0, hA, hx⟩ := h
  cases e
  refine ⟨g, off, fun h0 => hA (by omega), hn, hc, fun k hk => ?_⟩
  rw [hx k (by omega), List.getElem?_map, List.getElem?_eq_getElem hk]
  rfl
/-- the anchor. -/
def wkD : Dk := ((((newD 4).create an).1.write an 0 [7, 8]).1.sync an).1
theorem wk1 : ((newD 4).create an).2 = 0 := by decide
theorem wk2 : (((newD 4).create an).1.write an 0 [7, 8]).2 = 0 := by decide
theorem wk3 : ((((newD 4).create an).1.write an 0 [7, 8]).1.sync an).2 = 0 := by decide
theorem wk4 : wkD.read an 1 9 = ([8], 0) := by decide
theorem wk5 : wkD.used = 1 := by decide
end Go.Proofs.Ytkfokgjpeaibpaa
