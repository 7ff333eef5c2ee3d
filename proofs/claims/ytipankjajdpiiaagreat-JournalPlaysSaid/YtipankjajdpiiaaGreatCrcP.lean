/-
  Plain functions on bytes: nothing of the program stands here.
-/
import Derived.WalkKit
namespace Go.Proofs.YtipankjajdpiiaaGreat

def u8v (b : UInt8) : Value := .int .u8 b.toNat
def byteAt (x : Nat) (i : Nat) : UInt8 := UInt8.ofNat (x / 2 ^ (8 * i))
/-- so many bytes of a number, the lowest first. -/
def le (x : Nat) (n : Nat) : List UInt8 := (List.range n).map (byteAt x)
theorem le_succ (x n : Nat) : le x (n + 1) = le x n ++ [byteAt x n] := by simp [le, List.range_succ]
theorem length_le (x n : Nat) : (le x n).length = n := by simp [le]
/-- the number that bytes say, the lowest first. -/
def rdN : List UInt8 → Nat
  | [] => 0
  | b :: l => b.toNat + 256 * rdN l
theorem rdN_snoc (l : List UInt8) (b : UInt8) : rdN (l ++ [b]) = rdN l + b.toNat * 2 ^ (8 * l.length) := by
  induction l with
  | nil => simp [rdN]
  | cons a l ih =>
    simp only [List.cons_append, rdN, ih, List.length_cons]
    rw [show 8 * (l.length + 1) = 8 * l.length + 8 from by omega, Nat.pow_add]
    simp only [Nat.mul_add, Nat.add_assoc]
    congr 2
    rw [← Nat.mul_assoc, ← Nat.mul_assoc, Nat.mul_comm 256, Nat.mul_assoc, Nat.mul_comm 256, Nat.mul_assoc]
theorem rdN_lt (l : List UInt8) : rdN l < 2 ^ (8 * l.length) := by
  induction l with
  | nil => simp [rdN]
  | cons a l ih =>
    simp only [rdN, List.length_cons]
    rw [show 8 * (l.length + 1) = 8 * l.length + 8 from by omega, Nat.pow_add]
    have := a.toNat_lt
    omega
theorem take_snoc {α : Type} {l : List α} {k : Nat} (h : k < l.length) : l.take (k + 1) = l.take k ++ [l[k]] := List.take_succ_eq_append_getElem h
theorem rdN_take_succ {l : List UInt8} {k : Nat} (h : k < l.length) : rdN (l.take (k + 1)) = rdN (l.take k) + l[k].toNat * 2 ^ (8 * k) := by
  rw [take_snoc h, rdN_snoc, List.length_take_of_le (by omega)]
theorem rdN_take_lt (l : List UInt8) (k : Nat) : rdN (l.take k) < 2 ^ (8 * k) :=
  Nat.lt_of_lt_of_le (rdN_lt _) (Nat.pow_le_pow_right (by omega) (by simp; omega))
theorem le_cons (x n : Nat) : le x (n + 1) = byteAt x 0 :: le (x / 256) n := by
  unfold le
  rw [List.range_succ_eq_map, List.map_cons, List.map_map]
  congr 1
  refine List.map_congr_left fun i _ => ?_
  simp only [Function.comp, byteAt]
  rw [show 8 * (i + 1) = 8 + 8 * i from by omega, Nat.pow_add, ← Nat.div_div_eq_div_mul]
theorem le_rd (l : List UInt8) : le (rdN l) l.length = l := by
  induction l with
  | nil => rfl
  | cons a l ih =>
    have ha := a.toNat_lt
    rw [List.length_cons, le_cons]
    have e : rdN (a :: l) / 256 = rdN l := by simp only [rdN]; omega
    rw [e, ih]
    congr 1
    simp [byteAt, rdN]
theorem rd_le (x n : Nat) : rdN (le x n) = x % 2 ^ (8 * n) := by
  induction n generalizing x with
  | zero => simp [le, rdN, Nat.mod_one]
  | succ n ih =>
    rw [le_cons, rdN, ih, show 8 * (n + 1) = 8 + 8 * n from by omega, Nat.pow_add, Nat.mod_mul]
    simp [byteAt]

theorem pow8 {k m : Nat} (hk : k < m) : 256 * 2 ^ (8 * k) ≤ 2 ^ (8 * m) := by
  have : 2 ^ (8 * (k + 1)) ≤ 2 ^ (8 * m) := Nat.pow_le_pow_right (by omega) (by omega)
  rw [show 8 * (k + 1) = 8 + 8 * k from by omega, Nat.pow_add] at this
  simpa using this
theorem or_step {X b k : Nat} (hX : X < 2 ^ (8 * k)) : X ||| b * 2 ^ (8 * k) = X + b * 2 ^ (8 * k) := by
  rw [Nat.or_comm, Nat.mul_comm, ← Nat.two_pow_add_eq_or_of_lt hX, Nat.add_comm]
theorem or64 {X b k : Nat} (hX : X < 2 ^ (8 * k)) (hb : b < 256) (hk : k < 8) :
    bits .or .u64 (X : Int) (IntKind.u64.wrap (IntKind.u64.wrap (b : Int) * 2 ^ (8 * k))) = ((X + b * 2 ^ (8 * k) : Nat) : Int) := by
  have h1 : 256 * 2 ^ (8 * k) ≤ 2 ^ 64 := pow8 hk
  have h2 : b * 2 ^ (8 * k) ≤ 255 * 2 ^ (8 * k) := Nat.mul_le_mul_right _ (by omega)
  have h3 : 0 < 2 ^ (8 * k) := Nat.pow_pos (by omega)
  have e : (b : Int) * 2 ^ (8 * k) = ((b * 2 ^ (8 * k) : Nat) : Int) := by simp
  rw [IntWalk.u64_in (b : Int) (by omega), e, IntWalk.u64_in _ (by omega), bits_or_u64_nat _ _ (by omega) (by omega), or_step hX]
theorem or32 {X b k : Nat} (hX : X < 2 ^ (8 * k)) (hb : b < 256) (hk : k < 4) :
    bits .or .u32 (X : Int) ((b : Int) % 4294967296 * 2 ^ (8 * k) % 4294967296) = ((X + b * 2 ^ (8 * k) : Nat) : Int) := by
  have h1 : 256 * 2 ^ (8 * k) ≤ 2 ^ 32 := pow8 hk
  have h2 : b * 2 ^ (8 * k) ≤ 255 * 2 ^ (8 * k) := Nat.mul_le_mul_right _ (by omega)
  have h3 : 0 < 2 ^ (8 * k) := Nat.pow_pos (by omega)
  have e : (b : Int) * 2 ^ (8 * k) = ((b * 2 ^ (8 * k) : Nat) : Int) := by simp
  rw [Int.emod_eq_of_lt (a := (b : Int)) (by omega) (by omega), e, Int.emod_eq_of_lt (by omega) (by omega), u32_or_nat _ _ (by omega) (by omega), or_step hX]
end Go.Proofs.YtipankjajdpiiaaGreat

/- A disk as plain data, and what its operations do to it. -/
namespace Go.Proofs.YtipankjajdpiiaaGreat

structure Fi where
  name : List UInt8
  now : List UInt8
  lasts : List UInt8
structure Dk where
  fs : List Fi
  loose : List UInt8 → Int → Bool
  nl : Nat
  quota : Nat
  armed : Nat
  dead : Bool
def okChar (c : UInt8) : Bool := (decide (97 ≤ c.toNat) && decide (c.toNat ≤ 122)) || ((decide (48 ≤ c.toNat) && decide (c.toNat ≤ 57)) || (decide (c.toNat = 46) || decide (c.toNat = 45)))
def rightB (s : List UInt8) : Bool := s.all okChar && (decide (1 ≤ s.length) && decide (s.length ≤ 24))
theorem right_len {s : List UInt8} (h : rightB s = true) : 1 ≤ s.length ∧ s.length ≤ 24 := by simp [rightB] at h; omega
def sectors (n : Nat) : Nat := (n + 63) / 64
def Dk.used (S : Dk) : Nat := (S.fs.map fun f => sectors f.now.length).sum
def Dk.begin (S : Dk) : Dk := if 0 < S.armed then { S with armed := S.armed - 1, dead := S.dead || decide (S.armed = 1) } else S
def Dk.find (S : Dk) (n : List UInt8) : Option Fi := S.fs.find? fun f => f.name == n
def setF (fs : List Fi) (n : List UInt8) (g : Fi → Fi) : List Fi := fs.map fun f => if f.name = n then g f else f
theorem begin_fs (S : Dk) : S.begin.fs = S.fs := by unfold Dk.begin; split <;> rfl
theorem begin_loose (S : Dk) : S.begin.loose = S.loose ∧ S.begin.nl = S.nl ∧ S.begin.quota = S.quota := by unfold Dk.begin; split <;> exact ⟨rfl, rfl, rfl⟩
theorem begin_find (S : Dk) (n : List UInt8) : S.begin.find n = S.find n := by unfold Dk.find; rw [begin_fs]
theorem begin_idle (S : Dk) (h : S.armed = 0) : S.begin = S := by unfold Dk.begin; rw [if_neg (by omega)]
theorem find_some {S : Dk} {n : List UInt8} {f : Fi} (h : S.find n = some f) : f ∈ S.fs ∧ f.name = n := by
  unfold Dk.find at h
  exact ⟨List.mem_of_find?_eq_some h, by simpa using List.find?_some h⟩
theorem find_none {S : Dk} {n : List UInt8} (h : S.find n = none) : ∀ f ∈ S.fs, f.name ≠ n := by
  unfold Dk.find at h
  rw [List.find?_eq_none] at h
  intro f hf e
  exact h f hf (by simp [e])
theorem setF_len (fs : List Fi) (n : List UInt8) (g : Fi → Fi) : (setF fs n g).length = fs.length := by simp [setF]
theorem mem_setF {fs : List Fi} {n : List UInt8} {g : Fi → Fi} {f : Fi} (h : f ∈ setF fs n g) : (f ∈ fs ∧ f.name ≠ n) ∨ ∃ f0 ∈ fs, f0.name = n ∧ f = g f0 := by
  obtain ⟨f0, h0, e⟩ := List.mem_map.1 h
  by_cases hn : f0.name = n
  · rw [if_pos hn] at e; exact .inr ⟨f0, h0, hn, e.symm⟩
  · rw [if_neg hn] at e; subst e; exact .inl ⟨h0, hn⟩
theorem setF_names {fs : List Fi} {n : List UInt8} {g : Fi → Fi} (hg : ∀ f, (g f).name = f.name) : (setF fs n g).map Fi.name = fs.map Fi.name := by
  unfold setF
  rw [List.map_map]
  refine List.map_congr_left fun f _ => ?_
  show (if f.name = n then g f else f).name = f.name
  split
  · exact hg f
  · rfl

/-! the operations -/
def Dk.create (S : Dk) (n : List UInt8) : Dk × Nat :=
  if S.begin.dead then (S.begin, 6) else if rightB n = false then (S.begin, 1) else if (S.find n).isSome then (S.begin, 4) else ({ S.begin with fs := S.fs ++ [⟨n, [], []⟩] }, 0)
/-- the sectors that bytes at a place touch. -/
def hits (off len : Nat) (k : Int) : Bool := (List.range len).any fun i => ((off + i) / 64 : Nat) == k
def overZ (l : List UInt8) (p : Nat) (m : List UInt8) : List UInt8 := l.take p ++ m ++ l.drop (p + m.length)
def Dk.wrote (S : Dk) (n : List UInt8) (off : Nat) (b : List UInt8) : Dk :=
  { S with fs := setF S.fs n fun f => { f with now := overZ f.now off b }, loose := fun s k => (s == n && hits off b.length k) || S.loose s k, nl := S.nl + b.length }
def Dk.write (S : Dk) (n : List UInt8) (off : Int) (b : List UInt8) : Dk × Nat :=
  if S.begin.dead then (S.begin, 6) else if rightB n = false ∨ off < 0 then (S.begin, 1) else
  match S.find n with
  | none => (S.begin, 3)
  | some f =>
    if (f.now.length : Int) < off then (S.begin, 1) else if 16777216 - off < b.length then (S.begin, 9) else
    if 0 < (sectors (max f.now.length (off.toNat + b.length)) : Int) - sectors f.now.length ∧ (S.quota : Int) < S.used + ((sectors (max f.now.length (off.toNat + b.length)) : Int) - sectors f.now.length) then (S.begin, 5)
    else (S.begin.wrote n off.toNat b, 0)
def Dk.cutTo (S : Dk) (n : List UInt8) (k : Nat) : Dk :=
  { S with fs := setF S.fs n fun f => { f with now := f.now.take k, lasts := f.lasts.take k }, loose := fun s j => S.loose s j && !(s == n && decide ((sectors k : Int) ≤ j)) }
def Dk.cut (S : Dk) (n : List UInt8) (k : Int) : Dk × Nat :=
  if S.begin.dead then (S.begin, 6) else if rightB n = false ∨ k < 0 then (S.begin, 1) else
  match S.find n with
  | none => (S.begin, 3)
  | some f => if (f.now.length : Int) < k then (S.begin, 1) else (S.begin.cutTo n k.toNat, 0)
def Dk.synced (S : Dk) (n : List UInt8) : Dk :=
  { S with fs := setF S.fs n fun f => { f with lasts := f.now }, loose := fun s j => S.loose s j && !(s == n) }
def Dk.sync (S : Dk) (n : List UInt8) : Dk × Nat :=
  if S.begin.dead then (S.begin, 6) else if rightB n = false then (S.begin, 1) else
  match S.find n with
  | none => (S.begin, 3)
  | some _ => (S.begin.synced n, 0)
def Dk.size (S : Dk) (n : List UInt8) : Nat × Nat :=
  if S.dead then (0, 6) else if rightB n = false then (0, 1) else
  match S.find n with
  | none => (0, 3)
  | some f => (f.now.length, 0)
def Dk.read (S : Dk) (n : List UInt8) (off k : Int) : List UInt8 × Nat :=
  if S.dead then ([], 6) else if rightB n = false ∨ off < 0 ∨ k < 0 then ([], 1) else
  match S.find n with
  | none => ([], 3)
  | some f => ((f.now.drop off.toNat).take k.toNat, 0)
end Go.Proofs.YtipankjajdpiiaaGreat

/- The name of a file. -/
namespace Go.Proofs.YtipankjajdpiiaaGreat
abbrev an : List UInt8 := [97]
theorem an_right : rightB an = true := by decide
end Go.Proofs.YtipankjajdpiiaaGreat

/- Sums of bytes, plain: eight steps at once, by a table. -/
namespace Go.Proofs.YtipankjajdpiiaaGreat

def poly : Nat := 2197175160
def stp (x : Nat) : Nat := x / 2 ^^^ poly * (x % 2)
def stpN : Nat → Nat → Nat
  | 0, x => x
  | n + 1, x => stpN n (stp x)
def crc1 (x b : Nat) : Nat := stpN 8 (x ^^^ b)
def crcL (x : Nat) : List UInt8 → Nat
  | [] => x
  | b :: l => crcL (crc1 x b.toNat) l
def crcE (s : Nat) (l : List UInt8) : Nat := 4294967295 - crcL (4294967295 - s) l
def crcS (l : List UInt8) : Nat := crcE 0 l
theorem stpN_succ (n x : Nat) : stpN (n + 1) x = stp (stpN n x) := by
  induction n generalizing x with
  | zero => rfl
  | succ n ih => rw [stpN, ih]; rfl
theorem crcL_snoc (x : Nat) (l : List UInt8) (b : UInt8) : crcL x (l ++ [b]) = crc1 (crcL x l) b.toNat := by
  induction l generalizing x with
  | nil => rfl
  | cons a l ih => exact ih _
theorem xor_lt {a b n : Nat} (ha : a < 2 ^ n) (hb : b < 2 ^ n) : a ^^^ b < 2 ^ n := Nat.xor_lt_two_pow ha hb
theorem stp_lt {x : Nat} (h : x < 2 ^ 32) : stp x < 2 ^ 32 := by
  unfold stp
  refine xor_lt (by omega) ?_
  have : x % 2 = 0 ∨ x % 2 = 1 := by omega
  unfold poly
  rcases this with e | e <;> rw [e] <;> omega
theorem stpN_lt (n : Nat) {x : Nat} (h : x < 2 ^ 32) : stpN n x < 2 ^ 32 := by
  induction n generalizing x with
  | zero => exact h
  | succ n ih => exact ih (stp_lt h)
theorem stp_xor (a b : Nat) : stp (a ^^^ b) = stp a ^^^ stp b := by
  unfold stp
  have h1 : (a ^^^ b) / 2 = a / 2 ^^^ b / 2 := by
    apply Nat.eq_of_testBit_eq
    intro i
    simp [Nat.testBit_div_two, Nat.testBit_xor]
  have h2 : poly * ((a ^^^ b) % 2) = poly * (a % 2) ^^^ poly * (b % 2) := by
    have e : (a ^^^ b) % 2 = (a % 2) ^^^ (b % 2) := by
      have := Nat.xor_mod_two_pow (a := a) (b := b) (n := 1)
      simpa using this
    rw [e]
    have ha : a % 2 = 0 ∨ a % 2 = 1 := by omega
    have hb : b % 2 = 0 ∨ b % 2 = 1 := by omega
    rcases ha with ha | ha <;> rcases hb with hb | hb <;> rw [ha, hb] <;> simp
  rw [h1, h2]
  ac_rfl
theorem stpN_xor (n a b : Nat) : stpN n (a ^^^ b) = stpN n a ^^^ stpN n b := by
  induction n generalizing a b with
  | zero => rfl
  | succ n ih => rw [stpN, stp_xor, ih]; rfl
theorem stp_even (y : Nat) : stp (2 * y) = y := by
  unfold stp
  rw [Nat.mul_mod_right, Nat.mul_zero, Nat.xor_zero]
  omega
theorem stp8_high (y : Nat) : stpN 8 (256 * y) = y := by
  simp only [stpN]
  rw [show 256 * y = 2 * (2 * (2 * (2 * (2 * (2 * (2 * (2 * y))))))) from by omega]
  simp only [stp_even]
theorem split_256 (x : Nat) : x = 256 * (x / 256) ^^^ x % 256 := by
  have h : x % 256 < 2 ^ 8 := by omega
  have e : 2 ^ 8 * (x / 256) + x % 256 = 2 ^ 8 * (x / 256) ||| x % 256 := Nat.two_pow_add_eq_or_of_lt h _
  apply Nat.eq_of_testBit_eq
  intro i
  have hx : x = 2 ^ 8 * (x / 256) ||| x % 256 := by rw [← e]; omega
  rw [Nat.testBit_xor]
  conv => lhs; rw [hx]
  rw [Nat.testBit_or, show 256 * (x / 256) = 2 ^ 8 * (x / 256) from rfl, Nat.testBit_two_pow_mul]
  by_cases hi : 8 ≤ i
  · have : (x % 256).testBit i = false := Nat.testBit_lt_two_pow (Nat.lt_of_lt_of_le h (Nat.pow_le_pow_right (by omega) hi))
    rw [this]; simp
  · simp [hi]
/-- the table does eight steps at once. -/
theorem crc1_table (x b : Nat) (hb : b < 256) : crc1 x b = x / 256 ^^^ stpN 8 (x % 256 ^^^ b) := by
  unfold crc1
  conv => lhs; rw [split_256 x, Nat.xor_assoc, stpN_xor, stp8_high]
theorem crc1_lt {x b : Nat} (hx : x < 2 ^ 32) (hb : b < 256) : crc1 x b < 2 ^ 32 := stpN_lt 8 (xor_lt hx (by omega))
theorem crcL_lt {x : Nat} (hx : x < 2 ^ 32) (l : List UInt8) : crcL x l < 2 ^ 32 := by
  induction l generalizing x with
  | nil => exact hx
  | cons b l ih => exact ih (crc1_lt hx b.toNat_lt)
theorem crcE_lt (s : Nat) (l : List UInt8) : crcE s l < 2 ^ 32 := by unfold crcE; omega
end Go.Proofs.YtipankjajdpiiaaGreat
