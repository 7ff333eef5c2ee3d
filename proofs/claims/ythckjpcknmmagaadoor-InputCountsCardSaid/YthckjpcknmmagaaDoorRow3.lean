/-
  the reference's Row.
-/
import Derived.Test.YthckjpcknmmagaaDoorRow2
namespace Go.Proofs.YthckjpcknmmagaaDoor
open Go.RowKit
set_option maxRecDepth 100000
set_option maxHeartbeats 400000

/-- an edge, an error's number and a place. -/
def ResR3 (r : Ed × Flt) (e : Ending) : Prop := e = .returned (.tuple #[r.1.v, .int .i64 (r.2.e : Nat), .int .i64 (r.2.p : Nat)])
theorem rowE_t {b : List UInt8} (h : b.length = 16) : (rowE b).t.toNat = rdN ((b.drop 0).take 4) := by
  unfold rowE; rw [edOf_t, List.take_append_of_le_length (by omega)]; rfl
theorem rowE_h {b : List UInt8} (h : b.length = 16) : (rowE b).h.toNat = rdN ((b.drop 4).take 4) := by
  unfold rowE; rw [edOf_h, List.drop_append_of_le_length (by omega), List.take_append_of_le_length (by simp; omega)]
theorem rowE_w {b : List UInt8} (h : b.length = 16) : (rowE b).w.toNat = rdN ((b.drop 8).take 8) := by
  unfold rowE; rw [edOf_w, List.drop_append_of_le_length (by omega), List.take_append_of_le_length (by simp; omega)]
theorem rowE_m {b : List UInt8} (h : b.length = 16) : (rowE b).m = 4294967295 := by
  apply UInt32.toNat_inj.1
  unfold rowE
  rw [edOf_m, ← h, List.drop_left]
  rfl

end Go.Proofs.YthckjpcknmmagaaDoor
