/-
  milepostref00: lists with a guard behind them; edges held against each other.
-/
import Derived.Test.YthckjpcknmmagaaDoorWr2
import Derived.Deep.RegionLaw
namespace Go.Proofs.YthckjpcknmmagaaDoor
open Go.RowKit
set_option maxRecDepth 100000
set_option maxHeartbeats 400000

def guardB : List UInt8 := [209, 14, 165, 90, 119, 254, 19]

/-- []byte(s), its world and its room behind names. -/
def byteC (w : World) (l : List UInt8) : Nat := grownCap w l.length 0 5
def byteW (w : World) (l : List UInt8) : World := w.drew.alloc (.cells (bytesRow ⟨l.toArray⟩ (byteC w l)) 5 ((bytesRow ⟨l.toArray⟩ (byteC w l)).size, (bytesRow ⟨l.toArray⟩ (byteC w l)).size + 1))
theorem run_bytes (w : World) (l : List UInt8) : (convert 9 31 (.string ⟨l.toArray⟩)).run Tryd.prog w = .ok (.slice (some ⟨w.heap.size, 0, none⟩) l.length (byteC w l)) (byteW w l) := by
  have hrun := run_bytes_of_string (P := Tryd.prog) w 9 31 5 ⟨l.toArray⟩ Tryd.underlying9 Tryd.underlying31 Tryd.underlying5
  have hsz : (⟨l.toArray⟩ : ByteArray).size = l.length := by simp [ByteArray.size]
  rw [hsz] at hrun
  exact hrun
theorem byteW_gr (w : World) (l : List UInt8) : w.grownBy (byteW w l) none := gr_trans (gr_drew w none) (gr_alloc _ _ none) (.inl rfl)
theorem byteW_own (w : World) (l : List UInt8) (hn : l.length ≤ maxLen) : OwnB (byteW w l) w.heap.size (.slice (some ⟨w.heap.size, 0, none⟩) l.length (byteC w l)) l := by
  have hcap : l.length ≤ byteC w l := grownCap_ge w l.length 0 5
  have hmax : byteC w l ≤ maxLen := grownCap_le_maxLen w l.length 0 5 hn
  unfold byteW
  generalize byteC w l = q at *
  have hs : (bytesRow ⟨l.toArray⟩ q).size = q := by simp [bytesRow, ByteArray.size]; omega
  have e : (bytesRow ⟨l.toArray⟩ q).toList.take (l.length * 1) = l.map u8v := by simp [bytesRow, u8v]
  generalize bytesRow ⟨l.toArray⟩ q = R at hs e
  have := own_lit w.drew w.heap.size 1 l.length q R 5 (R.size, R.size + 1) (.inl (Nat.le_refl _)) (by omega) hcap hmax (Nat.le_refl _)
  rw [e] at this
  exact this

theorem cat_guard (l : List UInt8) : ((⟨l.toArray⟩ : ByteArray) ++ ⟨#[209, 14, 165, 90, 119, 254, 19]⟩) = ⟨(l ++ guardB).toArray⟩ := by
  rw [show (⟨#[209, 14, 165, 90, 119, 254, 19]⟩ : ByteArray) = ⟨guardB.toArray⟩ from rfl, ByteArray.mk_append_mk]
end Go.Proofs.YthckjpcknmmagaaDoor
