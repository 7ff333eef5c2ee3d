/-
  weight.Fits and its reference: so many times a weight stay below 2^63.
-/
import Derived.Test.YthckjpcknmmagaaDoorRef
import Derived.Shelf.Bits.Mul64
namespace Go.Proofs
open Go.Shelf
def Tryd.lays264_ren : Go.Shelf.Ren := ⟨fun | 264 => 49 | n => n, fun | 53 => 27 | 46 => 81 | n => n, fun | n => n⟩
theorem Tryd.lays264 : Go.Proofs.Lays.n264 Tryd.prog Tryd.lays264_ren := {
  mixed := by kernel_rfl
  f264 := Tryd.func49.trans (congrArg some (by kernel_rfl))
  t46 := Tryd.underlying81
  a46 := Tryd.isAgg81
  z46 := Tryd.sizeOf81
  v46 := Tryd.zeroValue81
  t53 := Tryd.underlying27
  a53 := Tryd.isAgg27
  z53 := Tryd.sizeOf27
  v53 := Tryd.zeroValue27 }
namespace YthckjpcknmmagaaDoor
open Go.RowKit
set_option maxRecDepth 100000
set_option maxHeartbeats 400000

/-- so many times a weight stay below 2^63. -/
def fits (n : UInt32) (x : UInt64) : Bool := decide (n.toNat * x.toNat < 9223372036854775808)

theorem mul64_any (x y : Nat) (hx : x < 18446744073709551616) (hy : y < 18446744073709551616) (w : World) :
    Calls Tryd.prog 49 #[.int .u64 x, .int .u64 y] w fun e w' => e = .returned (.tuple #[.int .u64 ((x * y / 18446744073709551616 : Nat) : Int), .int .u64 ((x * y % 18446744073709551616 : Nat) : Int)]) ∧ w = w' :=
  (Any.bits_Mul64 Tryd.lays264 x y hx hy w).mono fun _ _ ⟨a, b⟩ => ⟨a, b.symm⟩

def hiW (n : UInt32) (x : UInt64) : Nat := n.toNat * x.toNat / 18446744073709551616
def loW (n : UInt32) (x : UInt64) : Nat := n.toNat * x.toNat % 18446744073709551616
theorem fits_hi (n : UInt32) (x : UInt64) (h : ¬ hiW n x = 0) : fits n x = false := by
  unfold fits hiW at *; simp; omega
theorem fits_lo (n : UInt32) (x : UInt64) (h : hiW n x = 0) : fits n x = decide ((loW n x : Int) < 9223372036854775808) := by
  unfold fits hiW loW at *; rw [decide_eq_decide]; omega

theorem mul64_w (n : UInt32) (x : UInt64) (w : World) :
    Calls Tryd.prog 49 #[.int .u64 n.toNat, .int .u64 x.toNat] w fun e w' => e = .returned (.tuple #[.int .u64 (hiW n x : Int), .int .u64 (loW n x : Int)]) ∧ w = w' :=
  mul64_any n.toNat x.toNat (Nat.lt_trans n.toNat_lt (by decide)) x.toNat_lt w
theorem fits_any (n : UInt32) (x : UInt64) (w : World) :
    Calls Tryd.prog 39 #[.int .u32 n.toNat, .int .u64 x.toNat] w fun e w' => e = .returned (.bool (fits n x)) ∧ w = w' := by
  have hx : x.toNat < 18446744073709551616 := x.toNat_lt
  have hn : n.toNat < 4294967296 := n.toNat_lt
  have Hm := Lib.hid (mul64_w n x w)
  by_cases h : hiW n x = 0
  · have Hf := Lib.hid (fits_lo n x h)
    have hb : ((hiW n x : Int) == 0) = true := by rw [beq_iff_eq]; omega
    clear h
    go_enter Tryd.func39, Tryd.ntmps39
    go_wp2_with (go_at_call 49; refine Hm.out.mono ?_; rintro e w2 ⟨rfl, rfl⟩)
    go_ret
    exact ⟨by rw [Hf.out]; rfl, rfl⟩
  · have Hf := Lib.hid (fits_hi n x h)
    have hb : ((hiW n x : Int) == 0) = false := by rw [beq_eq_false_iff_ne]; omega
    clear h
    go_enter Tryd.func39, Tryd.ntmps39
    go_wp2_with (go_at_call 49; refine Hm.out.mono ?_; rintro e w2 ⟨rfl, rfl⟩)
    go_ret
    exact ⟨by rw [Hf.out]; rfl, rfl⟩

theorem fits_quo (n : UInt32) (x : UInt64) (h : 0 < n.toNat) : fits n x = decide ((x.toNat : Int) ≤ 9223372036854775807 / (n.toNat : Int)) := by
  unfold fits
  rw [decide_eq_decide]
  have e : (9223372036854775807 : Int) / (n.toNat : Int) = ((9223372036854775807 / n.toNat : Nat) : Int) := by simp
  rw [e, Int.ofNat_le, Nat.le_div_iff_mul_le h, Nat.mul_comm]
  omega

end YthckjpcknmmagaaDoor
end Go.Proofs
