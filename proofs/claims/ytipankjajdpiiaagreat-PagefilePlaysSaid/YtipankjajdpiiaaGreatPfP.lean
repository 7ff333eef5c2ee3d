/-
  Plain functions on bytes: nothing of the program stands here.
-/
import Derived.WalkKit
namespace Go.Proofs.YtipankjajdpiiaaGreat

def u8v (b : UInt8) : Value := .int .u8 b.toNat
def byteAt (x : Nat) (i : Nat) : UInt8 := UInt8.ofNat (x / 2 ^ (8 * i))
/-- so many bytes of a number, the lowest first. -/
def le (x : Nat) (n : Nat) : List UInt8 := (List.range n).map (byteAt x)
theorem le_succ (x n : Nat) : le x (n + 1) = le x n ++ [byteAt x n] := by simp [le, List.range_succ]
theorem length_le (x n : Nat) : (le x n).length = n := by simp [le]
/-- the number that bytes say, the lowest first. -/
def rdN : List UInt8 → Nat
  | [] => 0
  | b :: l => b.toNat + 256 * rdN l
theorem rdN_snoc (l : List UInt8) (b : UInt8) : rdN (l ++ [b]) = rdN l + b.toNat * 2 ^ (8 * l.length) := by
  induction l with
  | nil => simp [rdN]
  | cons a l ih =>
    simp only [List.cons_append, rdN, ih, List.length_cons]
    rw [show 8 * (l.length + 1) = 8 * l.length + 8 from by omega, Nat.pow_add]
    simp only [Nat.mul_add, Nat.add_assoc]
    congr 2
    rw [← Nat.mul_assoc, ← Nat.mul_assoc, Nat.mul_comm 256, Nat.mul_assoc, Nat.mul_comm 256, Nat.mul_assoc]
theorem rdN_lt (l : List UInt8) : rdN l < 2 ^ (8 * l.length) := by
  induction l with
  | nil => simp [rdN]
  | cons a l ih =>
    simp only [rdN, List.length_cons]
    rw [show 8 * (l.length + 1) = 8 * l.length + 8 from by omega, Nat.pow_add]
    have := a.toNat_lt
    omega
theorem take_snoc {α : Type} {l : List α} {k : Nat} (h : k < l.length) : l.take (k + 1) = l.take k ++ [l[k]] := List.take_succ_eq_append_getElem h
theorem rdN_take_succ {l : List UInt8} {k : Nat} (h : k < l.length) : rdN (l.take (k + 1)) = rdN (l.take k) + l[k].toNat * 2 ^ (8 * k) := by
  rw [take_snoc h, rdN_snoc, List.length_take_of_le (by omega)]
theorem rdN_take_lt (l : List UInt8) (k : Nat) : rdN (l.take k) < 2 ^ (8 * k) :=
  Nat.lt_of_lt_of_le (rdN_lt _) (Nat.pow_le_pow_right (by omega) (by simp; omega))
theorem le_cons (x n : Nat) : le x (n + 1) = byteAt x 0 :: le (x / 256) n := by
  unfold le
  rw [List.range_succ_eq_map, List.map_cons, List.map_map]
  congr 1
  refine List.map_congr_left fun i _ => ?_
  simp only [Function.comp, byteAt]
  rw [show 8 * (i + 1) = 8 + 8 * i from by omega, Nat.pow_add, ← Nat.div_div_eq_div_mul]
theorem le_rd (l : List UInt8) : le (rdN l) l.length = l := by
  induction l with
  | nil => rfl
  | cons a l ih =>
    have ha := a.toNat_lt
    rw [List.length_cons, le_cons]
    have e : rdN (a :: l) / 256 = rdN l := by simp only [rdN]; omega
    rw [e, ih]
    congr 1
    simp [byteAt, rdN]
theorem rd_le (x n : Nat) : rdN (le x n) = x % 2 ^ (8 * n) := by
  induction n generalizing x with
  | zero => simp [le, rdN, Nat.mod_one]
  | succ n ih =>
    rw [le_cons, rdN, ih, show 8 * (n + 1) = 8 + 8 * n from by omega, Nat.pow_add, Nat.mod_mul]
    simp [byteAt]

theorem pow8 {k m : Nat} (hk : k < m) : 256 * 2 ^ (8 * k) ≤ 2 ^ (8 * m) := by
  have : 2 ^ (8 * (k + 1)) ≤ 2 ^ (8 * m) := Nat.pow_le_pow_right (by omega) (by omega)
  rw [show 8 * (k + 1) = 8 + 8 * k from by omega, Nat.pow_add] at this
  simpa using this
theorem or_step {X b k : Nat} (hX : X < 2 ^ (8 * k)) : X ||| b * 2 ^ (8 * k) = X + b * 2 ^ (8 * k) := by
  rw [Nat.or_comm, Nat.mul_comm, ← Nat.two_pow_add_eq_or_of_lt hX, Nat.add_comm]
theorem or64 {X b k : Nat} (hX : X < 2 ^ (8 * k)) (hb : b < 256) (hk : k < 8) :
    bits .or .u64 (X : Int) (IntKind.u64.wrap (IntKind.u64.wrap (b : Int) * 2 ^ (8 * k))) = ((X + b * 2 ^ (8 * k) : Nat) : Int) := by
  have h1 : 256 * 2 ^ (8 * k) ≤ 2 ^ 64 := pow8 hk
  have h2 : b * 2 ^ (8 * k) ≤ 255 * 2 ^ (8 * k) := Nat.mul_le_mul_right _ (by omega)
  have h3 : 0 < 2 ^ (8 * k) := Nat.pow_pos (by omega)
  have e : (b : Int) * 2 ^ (8 * k) = ((b * 2 ^ (8 * k) : Nat) : Int) := by simp
  rw [IntWalk.u64_in (b : Int) (by omega), e, IntWalk.u64_in _ (by omega), bits_or_u64_nat _ _ (by omega) (by omega), or_step hX]
theorem or32 {X b k : Nat} (hX : X < 2 ^ (8 * k)) (hb : b < 256) (hk : k < 4) :
    bits .or .u32 (X : Int) ((b : Int) % 4294967296 * 2 ^ (8 * k) % 4294967296) = ((X + b * 2 ^ (8 * k) : Nat) : Int) := by
  have h1 : 256 * 2 ^ (8 * k) ≤ 2 ^ 32 := pow8 hk
  have h2 : b * 2 ^ (8 * k) ≤ 255 * 2 ^ (8 * k) := Nat.mul_le_mul_right _ (by omega)
  have h3 : 0 < 2 ^ (8 * k) := Nat.pow_pos (by omega)
  have e : (b : Int) * 2 ^ (8 * k) = ((b * 2 ^ (8 * k) : Nat) : Int) := by simp
  rw [Int.emod_eq_of_lt (a := (b : Int)) (by omega) (by omega), e, Int.emod_eq_of_lt (by omega) (by omega), u32_or_nat _ _ (by omega) (by omega), or_step hX]
end Go.Proofs.YtipankjajdpiiaaGreat

/- A disk as plain data, and what its operations do to it. -/
namespace Go.Proofs.YtipankjajdpiiaaGreat

structure Fi where
  name : List UInt8
  now : List UInt8
  lasts : List UInt8
structure Dk where
  fs : List Fi
  loose : List UInt8 → Int → Bool
  nl : Nat
  quota : Nat
  armed : Nat
  dead : Bool
def okChar (c : UInt8) : Bool := (decide (97 ≤ c.toNat) && decide (c.toNat ≤ 122)) || ((decide (48 ≤ c.toNat) && decide (c.toNat ≤ 57)) || (decide (c.toNat = 46) || decide (c.toNat = 45)))
def rightB (s : List UInt8) : Bool := s.all okChar && (decide (1 ≤ s.length) && decide (s.length ≤ 24))
theorem right_len {s : List UInt8} (h : rightB s = true) : 1 ≤ s.length ∧ s.length ≤ 24 := by simp [rightB] at h; omega
def sectors (n : Nat) : Nat := (n + 63) / 64
def Dk.used (S : Dk) : Nat := (S.fs.map fun f => sectors f.now.length).sum
def Dk.begin (S : Dk) : Dk := if 0 < S.armed then { S with armed := S.armed - 1, dead := S.dead || decide (S.armed = 1) } else S
def Dk.find (S : Dk) (n : List UInt8) : Option Fi := S.fs.find? fun f => f.name == n
def setF (fs : List Fi) (n : List UInt8) (g : Fi → Fi) : List Fi := fs.map fun f => if f.name = n then g f else f
theorem begin_fs (S : Dk) : S.begin.fs = S.fs := by unfold Dk.begin; split <;> rfl
theorem begin_loose (S : Dk) : S.begin.loose = S.loose ∧ S.begin.nl = S.nl ∧ S.begin.quota = S.quota := by unfold Dk.begin; split <;> exact ⟨rfl, rfl, rfl⟩
theorem begin_find (S : Dk) (n : List UInt8) : S.begin.find n = S.find n := by unfold Dk.find; rw [begin_fs]
theorem begin_idle (S : Dk) (h : S.armed = 0) : S.begin = S := by unfold Dk.begin; rw [if_neg (by omega)]
theorem find_some {S : Dk} {n : List UInt8} {f : Fi} (h : S.find n = some f) : f ∈ S.fs ∧ f.name = n := by
  unfold Dk.find at h
  exact ⟨List.mem_of_find?_eq_some h, by simpa using List.find?_some h⟩
theorem find_none {S : Dk} {n : List UInt8} (h : S.find n = none) : ∀ f ∈ S.fs, f.name ≠ n := by
  unfold Dk.find at h
  rw [List.find?_eq_none] at h
  intro f hf e
  exact h f hf (by simp [e])
theorem setF_len (fs : List Fi) (n : List UInt8) (g : Fi → Fi) : (setF fs n g).length = fs.length := by simp [setF]
theorem mem_setF {fs : List Fi} {n : List UInt8} {g : Fi → Fi} {f : Fi} (h : f ∈ setF fs n g) : (f ∈ fs ∧ f.name ≠ n) ∨ ∃ f0 ∈ fs, f0.name = n ∧ f = g f0 := by
  obtain ⟨f0, h0, e⟩ := List.mem_map.1 h
  by_cases hn : f0.name = n
  · rw [if_pos hn] at e; exact .inr ⟨f0, h0, hn, e.symm⟩
  · rw [if_neg hn] at e; subst e; exact .inl ⟨h0, hn⟩
theorem setF_names {fs : List Fi} {n : List UInt8} {g : Fi → Fi} (hg : ∀ f, (g f).name = f.name) : (setF fs n g).map Fi.name = fs.map Fi.name := by
  unfold setF
  rw [List.map_map]
  refine List.map_congr_left fun f _ => ?_
  show (if f.name = n then g f else f).name = f.name
  split
  · exact hg f
  · rfl

/-! the operations -/
def Dk.create (S : Dk) (n : List UInt8) : Dk × Nat :=
  if S.begin.dead then (S.begin, 6) else if rightB n = false then (S.begin, 1) else if (S.find n).isSome then (S.begin, 4) else ({ S.begin with fs := S.fs ++ [⟨n, [], []⟩] }, 0)
/-- the sectors that bytes at a place touch. -/
def hits (off len : Nat) (k : Int) : Bool := (List.range len).any fun i => ((off + i) / 64 : Nat) == k
def overZ (l : List UInt8) (p : Nat) (m : List UInt8) : List UInt8 := l.take p ++ m ++ l.drop (p + m.length)
def Dk.wrote (S : Dk) (n : List UInt8) (off : Nat) (b : List UInt8) : Dk :=
  { S with fs := setF S.fs n fun f => { f with now := overZ f.now off b }, loose := fun s k => (s == n && hits off b.length k) || S.loose s k, nl := S.nl + b.length }
def Dk.write (S : Dk) (n : List UInt8) (off : Int) (b : List UInt8) : Dk × Nat :=
  if S.begin.dead then (S.begin, 6) else if rightB n = false ∨ off < 0 then (S.begin, 1) else
  match S.find n with
  | none => (S.begin, 3)
  | some f =>
    if (f.now.length : Int) < off then (S.begin, 1) else if 16777216 - off < b.length then (S.begin, 9) else
    if 0 < (sectors (max f.now.length (off.toNat + b.length)) : Int) - sectors f.now.length ∧ (S.quota : Int) < S.used + ((sectors (max f.now.length (off.toNat + b.length)) : Int) - sectors f.now.length) then (S.begin, 5)
    else (S.begin.wrote n off.toNat b, 0)
def Dk.cutTo (S : Dk) (n : List UInt8) (k : Nat) : Dk :=
  { S with fs := setF S.fs n fun f => { f with now := f.now.take k, lasts := f.lasts.take k }, loose := fun s j => S.loose s j && !(s == n && decide ((sectors k : Int) ≤ j)) }
def Dk.cut (S : Dk) (n : List UInt8) (k : Int) : Dk × Nat :=
  if S.begin.dead then (S.begin, 6) else if rightB n = false ∨ k < 0 then (S.begin, 1) else
  match S.find n with
  | none => (S.begin, 3)
  | some f => if (f.now.length : Int) < k then (S.begin, 1) else (S.begin.cutTo n k.toNat, 0)
def Dk.synced (S : Dk) (n : List UInt8) : Dk :=
  { S with fs := setF S.fs n fun f => { f with lasts := f.now }, loose := fun s j => S.loose s j && !(s == n) }
def Dk.sync (S : Dk) (n : List UInt8) : Dk × Nat :=
  if S.begin.dead then (S.begin, 6) else if rightB n = false then (S.begin, 1) else
  match S.find n with
  | none => (S.begin, 3)
  | some _ => (S.begin.synced n, 0)
def Dk.size (S : Dk) (n : List UInt8) : Nat × Nat :=
  if S.dead then (0, 6) else if rightB n = false then (0, 1) else
  match S.find n with
  | none => (0, 3)
  | some f => (f.now.length, 0)
def Dk.read (S : Dk) (n : List UInt8) (off k : Int) : List UInt8 × Nat :=
  if S.dead then ([], 6) else if rightB n = false ∨ off < 0 ∨ k < 0 then ([], 1) else
  match S.find n with
  | none => ([], 3)
  | some f => ((f.now.drop off.toNat).take k.toNat, 0)
end Go.Proofs.YtipankjajdpiiaaGreat

/- The name of a file. -/
namespace Go.Proofs.YtipankjajdpiiaaGreat
abbrev an : List UInt8 := [97]
theorem an_right : rightB an = true := by decide
end Go.Proofs.YtipankjajdpiiaaGreat

/- Sums of bytes, plain: eight steps at once, by a table. -/
namespace Go.Proofs.YtipankjajdpiiaaGreat

def poly : Nat := 2197175160
def stp (x : Nat) : Nat := x / 2 ^^^ poly * (x % 2)
def stpN : Nat → Nat → Nat
  | 0, x => x
  | n + 1, x => stpN n (stp x)
def crc1 (x b : Nat) : Nat := stpN 8 (x ^^^ b)
def crcL (x : Nat) : List UInt8 → Nat
  | [] => x
  | b :: l => crcL (crc1 x b.toNat) l
def crcE (s : Nat) (l : List UInt8) : Nat := 4294967295 - crcL (4294967295 - s) l
def crcS (l : List UInt8) : Nat := crcE 0 l
theorem stpN_succ (n x : Nat) : stpN (n + 1) x = stp (stpN n x) := by
  induction n generalizing x with
  | zero => rfl
  | succ n ih => rw [stpN, ih]; rfl
theorem crcL_snoc (x : Nat) (l : List UInt8) (b : UInt8) : crcL x (l ++ [b]) = crc1 (crcL x l) b.toNat := by
  induction l generalizing x with
  | nil => rfl
  | cons a l ih => exact ih _
theorem xor_lt {a b n : Nat} (ha : a < 2 ^ n) (hb : b < 2 ^ n) : a ^^^ b < 2 ^ n := Nat.xor_lt_two_pow ha hb
theorem stp_lt {x : Nat} (h : x < 2 ^ 32) : stp x < 2 ^ 32 := by
  unfold stp
  refine xor_lt (by omega) ?_
  have : x % 2 = 0 ∨ x % 2 = 1 := by omega
  unfold poly
  rcases this with e | e <;> rw [e] <;> omega
theorem stpN_lt (n : Nat) {x : Nat} (h : x < 2 ^ 32) : stpN n x < 2 ^ 32 := by
  induction n generalizing x with
  | zero => exact h
  | succ n ih => exact ih (stp_lt h)
theorem stp_xor (a b : Nat) : stp (a ^^^ b) = stp a ^^^ stp b := by
  unfold stp
  have h1 : (a ^^^ b) / 2 = a / 2 ^^^ b / 2 := by
    apply Nat.eq_of_testBit_eq
    intro i
    simp [Nat.testBit_div_two, Nat.testBit_xor]
  have h2 : poly * ((a ^^^ b) % 2) = poly * (a % 2) ^^^ poly * (b % 2) := by
    have e : (a ^^^ b) % 2 = (a % 2) ^^^ (b % 2) := by
      have := Nat.xor_mod_two_pow (a := a) (b := b) (n := 1)
      simpa using this
    rw [e]
    have ha : a % 2 = 0 ∨ a % 2 = 1 := by omega
    have hb : b % 2 = 0 ∨ b % 2 = 1 := by omega
    rcases ha with ha | ha <;> rcases hb with hb | hb <;> rw [ha, hb] <;> simp
  rw [h1, h2]
  ac_rfl
theorem stpN_xor (n a b : Nat) : stpN n (a ^^^ b) = stpN n a ^^^ stpN n b := by
  induction n generalizing a b with
  | zero => rfl
  | succ n ih => rw [stpN, stp_xor, ih]; rfl
theorem stp_even (y : Nat) : stp (2 * y) = y := by
  unfold stp
  rw [Nat.mul_mod_right, Nat.mul_zero, Nat.xor_zero]
  omega
theorem stp8_high (y : Nat) : stpN 8 (256 * y) = y := by
  simp only [stpN]
  rw [show 256 * y = 2 * (2 * (2 * (2 * (2 * (2 * (2 * (2 * y))))))) from by omega]
  simp only [stp_even]
theorem split_256 (x : Nat) : x = 256 * (x / 256) ^^^ x % 256 := by
  have h : x % 256 < 2 ^ 8 := by omega
  have e : 2 ^ 8 * (x / 256) + x % 256 = 2 ^ 8 * (x / 256) ||| x % 256 := Nat.two_pow_add_eq_or_of_lt h _
  apply Nat.eq_of_testBit_eq
  intro i
  have hx : x = 2 ^ 8 * (x / 256) ||| x % 256 := by rw [← e]; omega
  rw [Nat.testBit_xor]
  conv => lhs; rw [hx]
  rw [Nat.testBit_or, show 256 * (x / 256) = 2 ^ 8 * (x / 256) from rfl, Nat.testBit_two_pow_mul]
  by_cases hi : 8 ≤ i
  · have : (x % 256).testBit i = false := Nat.testBit_lt_two_pow (Nat.lt_of_lt_of_le h (Nat.pow_le_pow_right (by omega) hi))
    rw [this]; simp
  · simp [hi]
/-- the table does eight steps at once. -/
theorem crc1_table (x b : Nat) (hb : b < 256) : crc1 x b = x / 256 ^^^ stpN 8 (x % 256 ^^^ b) := by
  unfold crc1
  conv => lhs; rw [split_256 x, Nat.xor_assoc, stpN_xor, stp8_high]
theorem crc1_lt {x b : Nat} (hx : x < 2 ^ 32) (hb : b < 256) : crc1 x b < 2 ^ 32 := stpN_lt 8 (xor_lt hx (by omega))
theorem crcL_lt {x : Nat} (hx : x < 2 ^ 32) (l : List UInt8) : crcL x l < 2 ^ 32 := by
  induction l generalizing x with
  | nil => exact hx
  | cons b l ih => exact ih (crc1_lt hx b.toNat_lt)
theorem crcE_lt (s : Nat) (l : List UInt8) : crcE s l < 2 ^ 32 := by unfold crcE; omega
end Go.Proofs.YtipankjajdpiiaaGreat

/- What sums say of bursts of flipped bits: plain. -/
namespace Go.Proofs.YtipankjajdpiiaaGreat
set_option maxRecDepth 100000

theorem stp_ne0 {x : Nat} (h : x < 2 ^ 32) (h0 : x ≠ 0) : stp x ≠ 0 := by
  unfold stp
  rcases (by omega : x % 2 = 0 ∨ x % 2 = 1) with e | e
  · rw [e, Nat.mul_zero, Nat.xor_zero]; omega
  · rw [e, Nat.mul_one]
    intro he
    have : x / 2 = poly := by have h2 := congrArg (· ^^^ poly) he; simp only [Nat.xor_assoc, Nat.xor_self, Nat.xor_zero, Nat.zero_xor] at h2; exact h2
    unfold poly at this
    omega
theorem stpN_ne0 (n : Nat) {x : Nat} (h : x < 2 ^ 32) (h0 : x ≠ 0) : stpN n x ≠ 0 := by
  induction n generalizing x with
  | zero => exact h0
  | succ n ih => exact ih (stp_lt h) (stp_ne0 h h0)
theorem stpN_add (m n x : Nat) : stpN (m + n) x = stpN n (stpN m x) := by
  induction m generalizing x with
  | zero => rw [Nat.zero_add]; rfl
  | succ m ih => rw [show m + 1 + n = m + n + 1 from by omega, stpN, ih]; rfl
theorem stpN_pow (f y : Nat) : stpN f (y * 2 ^ f) = y := by
  induction f with
  | zero => simp [stpN]
  | succ f ih => rw [stpN, show y * 2 ^ (f + 1) = 2 * (y * 2 ^ f) from by rw [Nat.pow_succ]; ac_rfl, stp_even, ih]
theorem rdN_cons_xor (b : UInt8) (l : List UInt8) : rdN (b :: l) = b.toNat ^^^ (rdN l * 2 ^ 8) := by
  have hb := b.toNat_lt
  show b.toNat + 256 * rdN l = _
  apply Nat.eq_of_testBit_eq
  intro i
  rw [Nat.testBit_xor, show b.toNat + 256 * rdN l = 2 ^ 8 * rdN l + b.toNat from by omega, Nat.testBit_two_pow_mul_add _ hb, Nat.mul_comm (rdN l), Nat.testBit_two_pow_mul]
  by_cases hi : i < 8
  · rw [if_pos hi]
    have : decide (i ≥ 8) = false := by simp; omega
    simp [this]
  · rw [if_neg hi, Nat.testBit_lt_two_pow (x := b.toNat) (i := i) (Nat.lt_of_lt_of_le hb (Nat.pow_le_pow_right (by omega) (by omega)))]
    have : decide (i ≥ 8) = true := by simp; omega
    simp [this]
theorem crcL_eq (x : Nat) (l : List UInt8) : crcL x l = stpN (8 * l.length) (x ^^^ rdN l) := by
  induction l generalizing x with
  | nil => show x = stpN 0 (x ^^^ 0); rw [Nat.xor_zero]; rfl
  | cons b l ih =>
    rw [crcL, ih, rdN_cons_xor, List.length_cons, show 8 * (l.length + 1) = 8 + 8 * l.length from by omega, stpN_add, ← Nat.xor_assoc, stpN_xor 8, stpN_pow]
    rfl
theorem crcL_cat (x : Nat) (l m : List UInt8) : crcL x (l ++ m) = crcL (crcL x l) m := by
  induction l generalizing x with
  | nil => rfl
  | cons a l ih => exact ih _
theorem neg_xor {x : Nat} (hx : x < 2 ^ 32) : 4294967295 - x = 4294967295 ^^^ x := by
  apply Nat.eq_of_testBit_eq
  intro i
  rw [Nat.testBit_xor, show (4294967295 : Nat) = 2 ^ 32 - 1 from rfl, Nat.testBit_two_pow_sub_one, show 2 ^ 32 - 1 - x = 2 ^ 32 - (x + 1) from by omega, Nat.testBit_two_pow_sub_succ hx]
  by_cases hi : i < 32
  · simp [hi]
  · have : x.testBit i = false := Nat.testBit_lt_two_pow (Nat.lt_of_lt_of_le hx (Nat.pow_le_pow_right (by omega) (by omega)))
    simp [hi, this]
end Go.Proofs.YtipankjajdpiiaaGreat

/- Pages as bytes: plain laws. -/
namespace Go.Proofs.YtipankjajdpiiaaGreat
set_option maxRecDepth 100000

/-- what stands ahead of a page's sum. -/
def pagH (tag k : Nat) (b : List UInt8) : List UInt8 := le tag 4 ++ (le k 4 ++ (le b.length 2 ++ (le 0 2 ++ (b ++ List.replicate (240 - b.length) 0))))
def pagB (tag k : Nat) (b : List UInt8) : List UInt8 := pagH tag k b ++ le (crcS (pagH tag k b)) 4
theorem pagH_len {tag k : Nat} {b : List UInt8} (h : b.length ≤ 240) : (pagH tag k b).length = 252 := by
  simp only [pagH, List.length_append, length_le, List.length_replicate]; omega
theorem pagB_len {tag k : Nat} {b : List UInt8} (h : b.length ≤ 240) : (pagB tag k b).length = 256 := by
  simp only [pagB, List.length_append, length_le, pagH_len h]
/-- what Open answers: the bytes, or none. -/
def pagO (p : List UInt8) (tag k : Nat) : Option (List UInt8) :=
  if p.length = 256 ∧ rdN ((p.drop 252).take 4) = crcS (p.take 252) ∧ rdN ((p.drop 8).take 2) ≤ 240 ∧ rdN (p.take 4) = tag ∧ rdN ((p.drop 4).take 4) = k ∧ rdN ((p.drop 10).take 2) = 0 ∧
      ((p.take 252).drop (12 + rdN ((p.drop 8).take 2))).all (· == 0) = true then some ((p.take (12 + rdN ((p.drop 8).take 2))).drop 12) else none
theorem pagB_parts {tag k : Nat} {b : List UInt8} (h : b.length ≤ 240) (ht : tag < 2 ^ 32) (hk : k < 2 ^ 32) :
    rdN (((pagB tag k b).drop 252).take 4) = crcS ((pagB tag k b).take 252) ∧ rdN ((pagB tag k b).take 4) = tag ∧ rdN (((pagB tag k b).drop 4).take 4) = k ∧ rdN (((pagB tag k b).drop 8).take 2) = b.length ∧
      rdN (((pagB tag k b).drop 10).take 2) = 0 ∧ ((pagB tag k b).take (12 + b.length)).drop 12 = b ∧ ((pagB tag k b).take 252).drop (12 + b.length) = List.replicate (240 - b.length) 0 := by
  have h4 : ∀ x : Nat, (le x 4).length = 4 := fun x => length_le x 4
  have h2 : ∀ x : Nat, (le x 2).length = 2 := fun x => length_le x 2
  have hl := pagH_len (tag := tag) (k := k) h
  have e : pagB tag k b = le tag 4 ++ (le k 4 ++ (le b.length 2 ++ (le 0 2 ++ (b ++ (List.replicate (240 - b.length) 0 ++ le (crcS (pagH tag k b)) 4))))) := by
    have e0 : pagB tag k b = pagH tag k b ++ le (crcS (pagH tag k b)) 4 := rfl
    rw [e0]
    generalize le (crcS (pagH tag k b)) 4 = T
    unfold pagH
    simp only [List.append_assoc]
  have hc : crcS (pagH tag k b) < 2 ^ 32 := crcE_lt _ _
  have d4 : ∀ (x : Nat) (Y : List UInt8), (le x 4 ++ Y).drop 4 = Y := fun x Y => List.drop_left' (h4 x)
  have t4 : ∀ (x : Nat) (Y : List UInt8), (le x 4 ++ Y).take 4 = le x 4 := fun x Y => List.take_left' (h4 x)
  have d2 : ∀ (x : Nat) (Y : List UInt8), (le x 2 ++ Y).drop 2 = Y := fun x Y => List.drop_left' (h2 x)
  have t2 : ∀ (x : Nat) (Y : List UInt8), (le x 2 ++ Y).take 2 = le x 2 := fun x Y => List.take_left' (h2 x)
  have e8 : ∀ L : List UInt8, L.drop 8 = (L.drop 4).drop 4 := fun L => by rw [List.drop_drop]
  have e10 : ∀ L : List UInt8, L.drop 10 = ((L.drop 4).drop 4).drop 2 := fun L => by rw [List.drop_drop, List.drop_drop]
  have e12 : ∀ L : List UInt8, L.drop 12 = (((L.drop 4).drop 4).drop 2).drop 2 := fun L => by rw [List.drop_drop, List.drop_drop, List.drop_drop]
  have hd12 : (pagB tag k b).drop 12 = b ++ (List.replicate (240 - b.length) 0 ++ le (crcS (pagH tag k b)) 4) := by
    rw [e12, e, d4, d4, d2, d2]
  refine ⟨?_, ?_, ?_, ?_, ?_, ?_, ?_⟩
  · have a1 : (pagB tag k b).drop 252 = le (crcS (pagH tag k b)) 4 := List.drop_left' hl
    have a2 : (pagB tag k b).take 252 = pagH tag k b := List.take_left' hl
    rw [a1, a2, List.take_of_length_le (Nat.le_of_eq (h4 _)), rd_le, Nat.mod_eq_of_lt (by omega)]
  · rw [e, t4, rd_le, Nat.mod_eq_of_lt (by omega)]
  · rw [e, d4, t4, rd_le, Nat.mod_eq_of_lt (by omega)]
  · rw [e8, e, d4, d4, t2, rd_le, Nat.mod_eq_of_lt (by omega)]
  · rw [e10, e, d4, d4, d2, t2, rd_le]
  · rw [List.drop_take, hd12, show 12 + b.length - 12 = b.length from by omega]
    exact List.take_left' rfl
  · have a2 : (pagB tag k b).take 252 = pagH tag k b := List.take_left' hl
    have e' : (pagH tag k b).drop 12 = b ++ List.replicate (240 - b.length) 0 := by
      rw [e12]; unfold pagH; rw [d4, d4, d2, d2]
    rw [a2, ← List.drop_drop, e']
    exact List.drop_left' rfl
/-- a page that was made is read, just at its number. -/
theorem pagO_made {tag k m : Nat} {b : List UInt8} (h : b.length ≤ 240) (ht : tag < 2 ^ 32) (hk : k < 2 ^ 32) : pagO (pagB tag k b) tag m = if k = m then some b else none := by
  obtain ⟨h1, h2, h3, h4, h5, h6, h7⟩ := pagB_parts h ht hk
  unfold pagO
  rw [h4, h6, h7]
  by_cases e : k = m
  · rw [if_pos e, if_pos ⟨pagB_len h, h1, h, h2, by rw [h3]; exact e, h5, by simp⟩]
  · rw [if_neg e, if_neg (fun hh => e (by rw [← h3]; exact hh.2.2.2.2.1))]
/-- where the sum fits the register ends as ever. -/
theorem sum_crc {s : List UInt8} {n : Nat} (hs : s.length = n + 4) (h : rdN ((s.drop n).take 4) = crcS (s.take n)) : crcL 4294967295 s = stpN 32 4294967295 := by
  have hlt : crcL 4294967295 (s.take n) < 2 ^ 32 := crcL_lt (by omega) _
  have hc : crcS (s.take n) = 4294967295 ^^^ crcL 4294967295 (s.take n) := by
    show 4294967295 - crcL (4294967295 - 0) (s.take n) = _
    exact neg_xor hlt
  have hd : (s.drop n).take 4 = s.drop n := List.take_of_length_le (by rw [List.length_drop]; omega)
  have e : crcL 4294967295 s = crcL (crcL 4294967295 (s.take n)) (s.drop n) := by rw [← crcL_cat, List.take_append_drop]
  rw [hd] at h
  rw [e, crcL_eq, h, hc, List.length_drop, hs, show n + 4 - n = 4 from by omega]
  generalize crcL 4294967295 (s.take n) = c at *
  rw [Nat.xor_comm 4294967295 c, ← Nat.xor_assoc, Nat.xor_self, Nat.zero_xor]
/-- a burst of at most 32 bits in a page is seen. -/
theorem pagO_burst {p s : List UInt8} {tag k tag' k' : Nat} {b : List UInt8} (hp : pagO p tag k = some b) (W f : Nat) (hW : W ≠ 0) (hW2 : W < 2 ^ 32) (hf : f ≤ 2048) (hs : s.length = 256) (he : rdN s = rdN p ^^^ (W * 2 ^ f)) : pagO s tag' k' = none := by
  unfold pagO at hp ⊢
  by_cases h : p.length = 256 ∧ rdN ((p.drop 252).take 4) = crcS (p.take 252) ∧ rdN ((p.drop 8).take 2) ≤ 240 ∧ rdN (p.take 4) = tag ∧ rdN ((p.drop 4).take 4) = k ∧ rdN ((p.drop 10).take 2) = 0 ∧
      ((p.take 252).drop (12 + rdN ((p.drop 8).take 2))).all (· == 0) = true
  · refine if_neg fun hh => ?_
    have h1 := sum_crc hs hh.2.1
    have h2 := sum_crc h.1 h.2.1
    rw [crcL_eq, hs, he, ← Nat.xor_assoc, stpN_xor] at h1
    rw [crcL_eq, h.1] at h2
    rw [h2] at h1
    have h3 : stpN (8 * 256) (W * 2 ^ f) = 0 := by
      have := congrArg (stpN 32 4294967295 ^^^ ·) h1
      simp only [← Nat.xor_assoc, Nat.xor_self, Nat.zero_xor] at this
      exact this
    rw [show 8 * 256 = f + (2048 - f) from by omega, stpN_add, stpN_pow] at h3
    exact stpN_ne0 _ hW2 hW h3
  · rw [if_neg h] at hp; cases hp
end Go.Proofs.YtipankjajdpiiaaGreat

/- A file of pages as plain data. -/
namespace Go.Proofs.YtipankjajdpiiaaGreat
set_option maxRecDepth 100000

/-- a page of a file's bytes. -/
def pgA (c : List UInt8) (k : Nat) : List UInt8 := (c.drop (256 * k)).take 256
theorem pgA_len {c : List UInt8} {n k : Nat} (hc : c.length = 256 * n) (hk : k < n) : (pgA c k).length = 256 := by
  unfold pgA; rw [List.length_take, List.length_drop]; omega
theorem pgA_at (c : List UInt8) (k j : Nat) (hj : j < 256) : (pgA c k)[j]? = c[256 * k + j]? := by
  unfold pgA; rw [List.getElem?_take, if_pos hj, List.getElem?_drop]
theorem pgA_ext {p q : List UInt8} (hp : p.length = 256) (hq : q.length = 256) (h : ∀ j, j < 256 → p[j]? = q[j]?) : p = q := by
  apply List.ext_getElem?
  intro j
  by_cases hj : j < 256
  · exact h j hj
  · rw [List.getElem?_eq_none (by omega), List.getElem?_eq_none (by omega)]
theorem overZ_len8 {c p : List UInt8} {o : Nat} (ho : o ≤ c.length) : (overZ c o p).length = max c.length (o + p.length) := by
  unfold overZ; simp only [List.length_append, List.length_take, List.length_drop]; omega
theorem overZ_at {c p : List UInt8} {o : Nat} (ho : o ≤ c.length) (j : Nat) : (overZ c o p)[j]? = if j < o then c[j]? else if j < o + p.length then p[j - o]? else c[j]? := by
  unfold overZ
  rw [List.append_assoc]
  have hl : (c.take o).length = o := by rw [List.length_take]; omega
  by_cases h1 : j < o
  · rw [if_pos h1, List.getElem?_append_left (by omega), List.getElem?_take, if_pos h1]
  · rw [if_neg h1, List.getElem?_append_right (by omega), hl]
    by_cases h2 : j < o + p.length
    · rw [if_pos h2, List.getElem?_append_left (by omega)]
    · rw [if_neg h2, List.getElem?_append_right (by omega), List.getElem?_drop]
      congr 1
      omega
theorem pgA_over {c p : List UInt8} {n k j : Nat} (hc : c.length = 256 * n) (hp : p.length = 256) (hk : k ≤ n) (hj : j < max n (k + 1)) : pgA (overZ c (256 * k) p) j = if j = k then p else pgA c j := by
  have hl : (overZ c (256 * k) p).length = 256 * max n (k + 1) := by rw [overZ_len8 (by omega)]; omega
  by_cases e : j = k
  · rw [if_pos e]
    refine pgA_ext (pgA_len hl hj) hp fun i hi => ?_
    rw [pgA_at _ _ _ hi, overZ_at (by omega), if_neg (by omega), if_pos (by omega)]
    congr 1
    omega
  · rw [if_neg e]
    have hjn : j < n := by omega
    refine pgA_ext (pgA_len hl hj) (pgA_len hc hjn) fun i hi => ?_
    rw [pgA_at _ _ _ hi, pgA_at _ _ _ hi, overZ_at (by omega)]
    by_cases h1 : 256 * j + i < 256 * k
    · rw [if_pos h1]
    · rw [if_neg h1, if_neg (by omega)]
/-- so many pages, each with its bytes. -/
structure Holds (c : List UInt8) (tag n : Nat) (g : Nat → List UInt8) : Prop where
  len : c.length = 256 * n
  at_ : ∀ i, i < n → pagO (pgA c i) tag i = some (g i)
  small : ∀ i, i < n → (g i).length ≤ 240
theorem Holds.nil (tag : Nat) (g : Nat → List UInt8) : Holds [] tag 0 g := ⟨rfl, fun i hi => by omega, fun i hi => by omega⟩
theorem Holds.write {c : List UInt8} {tag n : Nat} {g : Nat → List UInt8} (h : Holds c tag n g) {k : Nat} (hk : k ≤ n) (hk2 : k < 2 ^ 32) (ht : tag < 2 ^ 32) {b : List UInt8} (hb : b.length ≤ 240) :
    Holds (overZ c (256 * k) (pagB tag k b)) tag (max n (k + 1)) (fun i => if i = k then b else g i) := by
  have hp := pagB_len (tag := tag) (k := k) hb
  refine ⟨by rw [overZ_len8 (by have := h.len; omega), hp, h.len]; omega, fun i hi => ?_, fun i hi => ?_⟩
  · rw [pgA_over h.len hp hk hi]
    by_cases e : i = k
    · subst e; rw [if_pos rfl, if_pos rfl, pagO_made hb ht hk2, if_pos rfl]
    · rw [if_neg e, if_neg e]; exact h.at_ i (by omega)
  · by_cases e : i = k
    · rw [if_pos e]; exact hb
    · rw [if_neg e]; exact h.small i (by omega)
theorem Holds.congr {c : List UInt8} {tag n m : Nat} {g g' : Nat → List UInt8} (h : Holds c tag n g) (hm : m = n) (hg : ∀ i, i < n → g' i = g i) : Holds c tag m g' := by
  subst hm
  exact ⟨h.len, fun i hi => by rw [hg i hi]; exact h.at_ i hi, fun i hi => by rw [hg i hi]; exact h.small i hi⟩
/-- at another number it is none. -/
theorem pagO_moved {p : List UInt8} {tag k m : Nat} {b : List UInt8} (h : pagO p tag k = some b) (hm : m ≠ k) : pagO p tag m = none := by
  unfold pagO at h ⊢
  split at h
  · next hh => exact if_neg fun h2 => hm (h2.2.2.2.2.1.symm.trans hh.2.2.2.2.1)
  · cases h
end Go.Proofs.YtipankjajdpiiaaGreat
