/-
  Flipped bits as numbers.
-/
import Derived.Test.YtapiocldoignoaaCrcB
import Derived.Test.YtapiocldoignoaaDw9
namespace Go.Proofs.Ytapiocldoignoaa
set_option maxRecDepth 100000

theorem rdN_flip (l : List UInt8) (p : Nat) (m : UInt8) (hp : p < l.length) : rdN (flipL l p m) = rdN l ^^^ (m.toNat * 2 ^ (8 * p)) := by
  induction l generalizing p with
  | nil => simp at hp
  | cons b l ih =>
    cases p with
    | zero =>
      show rdN ((b ^^^ m) :: l) = _
      rw [rdN_cons_xor, rdN_cons_xor, UInt8.toNat_xor]
      simp only [Nat.mul_zero, Nat.pow_zero, Nat.mul_one]
      ac_rfl
    | succ p =>
      have e : flipL (b :: l) (p + 1) m = b :: flipL l p m := by simp [flipL]
      rw [e, rdN_cons_xor, rdN_cons_xor, ih p (by simpa using hp), Nat.xor_assoc]
      congr 1
      apply Nat.eq_of_testBit_eq
      intro i
      rw [show m.toNat * 2 ^ (8 * (p + 1)) = 2 ^ 8 * (m.toNat * 2 ^ (8 * p)) from by rw [show 8 * (p + 1) = 8 + 8 * p from by omega, Nat.pow_add]; ac_rfl, Nat.mul_comm (_ ^^^ _), Nat.mul_comm (rdN l)]
      simp only [Nat.testBit_xor, Nat.testBit_two_pow_mul]
      cases decide (i ≥ 8) <;> simp
end Go.Proofs.Ytapiocldoignoaa
