/-
  Plain functions on bytes: nothing of the program stands here.
-/
import Derived.WalkKit
namespace Go.Proofs.Ythkajgangnmbdaa

def u8v (b : UInt8) : Value := .int .u8 b.toNat
def byteAt (x : Nat) (i : Nat) : UInt8 := UInt8.ofNat (x / 2 ^ (8 * i))
/-- so many bytes of a number, the lowest first. -/
def le (x : Nat) (n : Nat) : List UInt8 := (List.range n).map (byteAt x)
theorem le_succ (x n : Nat) : le x (n + 1) = le x n ++ [byteAt x n] := by simp [le, List.range_succ]
theorem length_le (x n : Nat) : (le x n).length = n := by simp [le]
/-- the number that bytes say, the lowest first. -/
def rdN : List UInt8 → Nat
  | [] => 0
  | b :: l => b.toNat + 256 * rdN l
theorem rdN_snoc (l : List UInt8) (b : UInt8) : rdN (l ++ [b]) = rdN l + b.toNat * 2 ^ (8 * l.length) := by
  induction l with
  | nil => simp [rdN]
  | cons a l ih =>
    simp only [List.cons_append, rdN, ih, List.length_cons]
    rw [show 8 * (l.length + 1) = 8 * l.length + 8 from by omega, Nat.pow_add]
    simp only [Nat.mul_add, Nat.add_assoc]
    congr 2
    rw [← Nat.mul_assoc, ← Nat.mul_assoc, Nat.mul_comm 256, Nat.mul_assoc, Nat.mul_comm 256, Nat.mul_assoc]
theorem rdN_lt (l : List UInt8) : rdN l < 2 ^ (8 * l.length) := by
  induction l with
  | nil => simp [rdN]
  | cons a l ih =>
    simp only [rdN, List.length_cons]
    rw [show 8 * (l.length + 1) = 8 * l.length + 8 from by omega, Nat.pow_add]
    have := a.toNat_lt
    omega
theorem take_snoc {α : Type} {l : List α} {k : Nat} (h : k < l.length) : l.take (k + 1) = l.take k ++ [l[k]] := List.take_succ_eq_append_getElem h
theorem rdN_take_succ {l : List UInt8} {k : Nat} (h : k < l.length) : rdN (l.take (k + 1)) = rdN (l.take k) + l[k].toNat * 2 ^ (8 * k) := by
  rw [take_snoc h, rdN_snoc, List.length_take_of_le (by omega)]
theorem rdN_take_lt (l : List UInt8) (k : Nat) : rdN (l.take k) < 2 ^ (8 * k) :=
  Nat.lt_of_lt_of_le (rdN_lt _) (Nat.pow_le_pow_right (by omega) (by simp; omega))
theorem le_cons (x n : Nat) : le x (n + 1) = byteAt x 0 :: le (x / 256) n := by
  unfold le
  rw [List.range_succ_eq_map, List.map_cons, List.map_map]
  congr 1
  refine List.map_congr_left fun i _ => ?_
  simp only [Function.comp, byteAt]
  rw [show 8 * (i + 1) = 8 + 8 * i from by omega, Nat.pow_add, ← Nat.div_div_eq_div_mul]
theorem le_rd (l : List UInt8) : le (rdN l) l.length = l := by
  induction l with
  | nil => rfl
  | cons a l ih =>
    have ha := a.toNat_lt
    rw [List.length_cons, le_cons]
    have e : rdN (a :: l) / 256 = rdN l := by simp only [rdN]; omega
    rw [e, ih]
    congr 1
    simp [byteAt, rdN]
theorem rd_le (x n : Nat) : rdN (le x n) = x % 2 ^ (8 * n) := by
  induction n generalizing x with
  | zero => simp [le, rdN, Nat.mod_one]
  | succ n ih =>
    rw [le_cons, rdN, ih, show 8 * (n + 1) = 8 + 8 * n from by omega, Nat.pow_add, Nat.mod_mul]
    simp [byteAt]

theorem pow8 {k m : Nat} (hk : k < m) : 256 * 2 ^ (8 * k) ≤ 2 ^ (8 * m) := by
  have : 2 ^ (8 * (k + 1)) ≤ 2 ^ (8 * m) := Nat.pow_le_pow_right (by omega) (by omega)
  rw [show 8 * (k + 1) = 8 + 8 * k from by omega, Nat.pow_add] at this
  simpa using this
theorem or_step {X b k : Nat} (hX : X < 2 ^ (8 * k)) : X ||| b * 2 ^ (8 * k) = X + b * 2 ^ (8 * k) := by
  rw [Nat.or_comm, Nat.mul_comm, ← Nat.two_pow_add_eq_or_of_lt hX, Nat.add_comm]
theorem or64 {X b k : Nat} (hX : X < 2 ^ (8 * k)) (hb : b < 256) (hk : k < 8) :
    bits .or .u64 (X : Int) (IntKind.u64.wrap (IntKind.u64.wrap (b : Int) * 2 ^ (8 * k))) = ((X + b * 2 ^ (8 * k) : Nat) : Int) := by
  have h1 : 256 * 2 ^ (8 * k) ≤ 2 ^ 64 := pow8 hk
  have h2 : b * 2 ^ (8 * k) ≤ 255 * 2 ^ (8 * k) := Nat.mul_le_mul_right _ (by omega)
  have h3 : 0 < 2 ^ (8 * k) := Nat.pow_pos (by omega)
  have e : (b : Int) * 2 ^ (8 * k) = ((b * 2 ^ (8 * k) : Nat) : Int) := by simp
  rw [IntWalk.u64_in (b : Int) (by omega), e, IntWalk.u64_in _ (by omega), bits_or_u64_nat _ _ (by omega) (by omega), or_step hX]
theorem or32 {X b k : Nat} (hX : X < 2 ^ (8 * k)) (hb : b < 256) (hk : k < 4) :
    bits .or .u32 (X : Int) ((b : Int) % 4294967296 * 2 ^ (8 * k) % 4294967296) = ((X + b * 2 ^ (8 * k) : Nat) : Int) := by
  have h1 : 256 * 2 ^ (8 * k) ≤ 2 ^ 32 := pow8 hk
  have h2 : b * 2 ^ (8 * k) ≤ 255 * 2 ^ (8 * k) := Nat.mul_le_mul_right _ (by omega)
  have h3 : 0 < 2 ^ (8 * k) := Nat.pow_pos (by omega)
  have e : (b : Int) * 2 ^ (8 * k) = ((b * 2 ^ (8 * k) : Nat) : Int) := by simp
  rw [Int.emod_eq_of_lt (a := (b : Int)) (by omega) (by omega), e, Int.emod_eq_of_lt (by omega) (by omega), u32_or_nat _ _ (by omega) (by omega), or_step hX]
end Go.Proofs.Ythkajgangnmbdaa
