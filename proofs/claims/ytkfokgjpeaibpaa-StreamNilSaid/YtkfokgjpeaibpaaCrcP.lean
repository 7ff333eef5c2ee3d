/-
  Sums of bytes, plain: eight steps at once, by a table.
-/
import Derived.Test.YtkfokgjpeaibpaaPure
namespace Go.Proofs.Ytkfokgjpeaibpaa

def poly : Nat := 2197175160
def stp (x : Nat) : Nat := x / 2 ^^^ poly * (x % 2)
def stpN : Nat → Nat → Nat
  | 0, x => x
  | n + 1, x => stpN n (stp x)
def crc1 (x b : Nat) : Nat := stpN 8 (x ^^^ b)
def crcL (x : Nat) : List UInt8 → Nat
  | [] => x
  | b :: l => crcL (crc1 x b.toNat) l
def crcE (s : Nat) (l : List UInt8) : Nat := 4294967295 - crcL (4294967295 - s) l
def crcS (l : List UInt8) : Nat := crcE 0 l
theorem stpN_succ (n x : Nat) : stpN (n + 1) x = stp (stpN n x) := by
  induction n generalizing x with
  | zero => rfl
  | succ n ih => rw [stpN, ih]; rfl
theorem crcL_snoc (x : Nat) (l : List UInt8) (b : UInt8) : crcL x (l ++ [b]) = crc1 (crcL x l) b.toNat := by
  induction l generalizing x with
  | nil => rfl
  | cons a l ih => exact ih _
theorem xor_lt {a b n : Nat} (ha : a < 2 ^ n) (hb : b < 2 ^ n) : a ^^^ b < 2 ^ n := Nat.xor_lt_two_pow ha hb
theorem stp_lt {x : Nat} (h : x < 2 ^ 32) : stp x < 2 ^ 32 := by
  unfold stp
  refine xor_lt (by omega) ?_
  have : x % 2 = 0 ∨ x % 2 = 1 := by omega
  unfold poly
  rcases this with e | e <;> rw [e] <;> omega
theorem stpN_lt (n : Nat) {x : Nat} (h : x < 2 ^ 32) : stpN n x < 2 ^ 32 := by
  induction n generalizing x with
  | zero => exact h
  | succ n ih => exact ih (stp_lt h)
theorem stp_xor (a b : Nat) : stp (a ^^^ b) = stp a ^^^ stp b := by
  unfold stp
  have h1 : (a ^^^ b) / 2 = a / 2 ^^^ b / 2 := by
    apply Nat.eq_of_testBit_eq
    intro i
    simp [Nat.testBit_div_two, Nat.testBit_xor]
  have h2 : poly * ((a ^^^ b) % 2) = poly * (a % 2) ^^^ poly * (b % 2) := by
    have e : (a ^^^ b) % 2 = (a % 2) ^^^ (b % 2) := by
      have := Nat.xor_mod_two_pow (a := a) (b := b) (n := 1)
      simpa using this
    rw [e]
    have ha : a % 2 = 0 ∨ a % 2 = 1 := by omega
    have hb : b % 2 = 0 ∨ b % 2 = 1 := by omega
    rcases ha with ha | ha <;> rcases hb with hb | hb <;> rw [ha, hb] <;> simp
  rw [h1, h2]
  ac_rfl
theorem stpN_xor (n a b : Nat) : stpN n (a ^^^ b) = stpN n a ^^^ stpN n b := by
  induction n generalizing a b with
  | zero => rfl
  | succ n ih => rw [stpN, stp_xor, ih]; rfl
theorem stp_even (y : Nat) : stp (2 * y) = y := by
  unfold stp
  rw [Nat.mul_mod_right, Nat.mul_zero, Nat.xor_zero]
  omega
theorem stp8_high (y : Nat) : stpN 8 (256 * y) = y := by
  simp only [stpN]
  rw [show 256 * y = 2 * (2 * (2 * (2 * (2 * (2 * (2 * (2 * y))))))) from by omega]
  simp only [stp_even]
theorem split_256 (x : Nat) : x = 256 * (x / 256) ^^^ x % 256 := by
  have h : x % 256 < 2 ^ 8 := by omega
  have e : 2 ^ 8 * (x / 256) + x % 256 = 2 ^ 8 * (x / 256) ||| x % 256 := Nat.two_pow_add_eq_or_of_lt h _
  apply Nat.eq_of_testBit_eq
  intro i
  have hx : x = 2 ^ 8 * (x / 256) ||| x % 256 := by rw [← e]; omega
  rw [Nat.testBit_xor]
  conv => lhs; rw [hx]
  rw [Nat.testBit_or, show 256 * (x / 256) = 2 ^ 8 * (x / 256) from rfl, Nat.testBit_two_pow_mul]
  by_cases hi : 8 ≤ i
  · have : (x % 256).testBit i = false := Nat.testBit_lt_two_pow (Nat.lt_of_lt_of_le h (Nat.pow_le_pow_right (by omega) hi))
    rw [this]; simp
  · simp [hi]
/-- the table does eight steps at once. -/
theorem crc1_table (x b : Nat) (hb : b < 256) : crc1 x b = x / 256 ^^^ stpN 8 (x % 256 ^^^ b) := by
  unfold crc1
  conv => lhs; rw [split_256 x, Nat.xor_assoc, stpN_xor, stp8_high]
theorem crc1_lt {x b : Nat} (hx : x < 2 ^ 32) (hb : b < 256) : crc1 x b < 2 ^ 32 := stpN_lt 8 (xor_lt hx (by omega))
theorem crcL_lt {x : Nat} (hx : x < 2 ^ 32) (l : List UInt8) : crcL x l < 2 ^ 32 := by
  induction l generalizing x with
  | nil => exact hx
  | cons b l ih => exact ih (crc1_lt hx b.toNat_lt)
theorem crcE_lt (s : Nat) (l : List UInt8) : crcE s l < 2 ^ 32 := by unfold crcE; omega
end Go.Proofs.Ytkfokgjpeaibpaa
