/-
  What sums say of bursts of flipped bits: plain.
-/
import Derived.Test.YtkfokgjpeaibpaaCrcP
namespace Go.Proofs.Ytkfokgjpeaibpaa
set_option maxRecDepth 100000

theorem stp_ne0 {x : Nat} (h : x < 2 ^ 32) (h0 : x ≠ 0) : stp x ≠ 0 := by
  unfold stp
  rcases (by omega : x % 2 = 0 ∨ x % 2 = 1) with e | e
  · rw [e, Nat.mul_zero, Nat.xor_zero]; omega
  · rw [e, Nat.mul_one]
    intro he
    have : x / 2 = poly := by have h2 := congrArg (· ^^^ poly) he; simp only [Nat.xor_assoc, Nat.xor_self, Nat.xor_zero, Nat.zero_xor] at h2; exact h2
    unfold poly at this
    omega
theorem stpN_ne0 (n : Nat) {x : Nat} (h : x < 2 ^ 32) (h0 : x ≠ 0) : stpN n x ≠ 0 := by
  induction n generalizing x with
  | zero => exact h0
  | succ n ih => exact ih (stp_lt h) (stp_ne0 h h0)
theorem stpN_add (m n x : Nat) : stpN (m + n) x = stpN n (stpN m x) := by
  induction m generalizing x with
  | zero => rw [Nat.zero_add]; rfl
  | succ m ih => rw [show m + 1 + n = m + n + 1 from by omega, stpN, ih]; rfl
theorem stpN_pow (f y : Nat) : stpN f (y * 2 ^ f) = y := by
  induction f with
  | zero => simp [stpN]
  | succ f ih => rw [stpN, show y * 2 ^ (f + 1) = 2 * (y * 2 ^ f) from by rw [Nat.pow_succ]; ac_rfl, stp_even, ih]
theorem rdN_cons_xor (b : UInt8) (l : List UInt8) : rdN (b :: l) = b.toNat ^^^ (rdN l * 2 ^ 8) := by
  have hb := b.toNat_lt
  show b.toNat + 256 * rdN l = _
  apply Nat.eq_of_testBit_eq
  intro i
  rw [Nat.testBit_xor, show b.toNat + 256 * rdN l = 2 ^ 8 * rdN l + b.toNat from by omega, Nat.testBit_two_pow_mul_add _ hb, Nat.mul_comm (rdN l), Nat.testBit_two_pow_mul]
  by_cases hi : i < 8
  · rw [if_pos hi]
    have : decide (i ≥ 8) = false := by simp; omega
    simp [this]
  · rw [if_neg hi, Nat.testBit_lt_two_pow (x := b.toNat) (i := i) (Nat.lt_of_lt_of_le hb (Nat.pow_le_pow_right (by omega) (by omega)))]
    have : decide (i ≥ 8) = true := by simp; omega
    simp [this]
theorem crcL_eq (x : Nat) (l : List UInt8) : crcL x l = stpN (8 * l.length) (x ^^^ rdN l) := by
  induction l generalizing x with
  | nil => show x = stpN 0 (x ^^^ 0); rw [Nat.xor_zero]; rfl
  | cons b l ih =>
    rw [crcL, ih, rdN_cons_xor, List.length_cons, show 8 * (l.length + 1) = 8 + 8 * l.length from by omega, stpN_add, ← Nat.xor_assoc, stpN_xor 8, stpN_pow]
    rfl
theorem crcL_cat (x : Nat) (l m : List UInt8) : crcL x (l ++ m) = crcL (crcL x l) m := by
  induction l generalizing x with
  | nil => rfl
  | cons a l ih => exact ih _
theorem neg_xor {x : Nat} (hx : x < 2 ^ 32) : 4294967295 - x = 4294967295 ^^^ x := by
  apply Nat.eq_of_testBit_eq
  intro i
  rw [Nat.testBit_xor, show (4294967295 : Nat) = 2 ^ 32 - 1 from rfl, Nat.testBit_two_pow_sub_one, show 2 ^ 32 - 1 - x = 2 ^ 32 - (x + 1) from by omega, Nat.testBit_two_pow_sub_succ hx]
  by_cases hi : i < 32
  · simp [hi]
  · have : x.testBit i = false := Nat.testBit_lt_two_pow (Nat.lt_of_lt_of_le hx (Nat.pow_le_pow_right (by omega) (by omega)))
    simp [hi, this]
end Go.Proofs.Ytkfokgjpeaibpaa
