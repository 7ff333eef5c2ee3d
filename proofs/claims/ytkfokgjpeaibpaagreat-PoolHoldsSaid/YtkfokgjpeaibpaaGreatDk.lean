/-
  A disk as plain data, and what its operations do to it.
-/
import Derived.Test.YtkfokgjpeaibpaaGreatPgP
namespace Go.Proofs.YtkfokgjpeaibpaaGreat

structure Fi where
  name : List UInt8
  now : List UInt8
  lasts : List UInt8
structure Dk where
  fs : List Fi
  loose : List UInt8 → Int → Bool
  nl : Nat
  quota : Nat
  armed : Nat
  dead : Bool
def okChar (c : UInt8) : Bool := (decide (97 ≤ c.toNat) && decide (c.toNat ≤ 122)) || ((decide (48 ≤ c.toNat) && decide (c.toNat ≤ 57)) || (decide (c.toNat = 46) || decide (c.toNat = 45)))
def rightB (s : List UInt8) : Bool := s.all okChar && (decide (1 ≤ s.length) && decide (s.length ≤ 24))
theorem right_len {s : List UInt8} (h : rightB s = true) : 1 ≤ s.length ∧ s.length ≤ 24 := by simp [rightB] at h; omega
def sectors (n : Nat) : Nat := (n + 63) / 64
def Dk.used (S : Dk) : Nat := (S.fs.map fun f => sectors f.now.length).sum
def Dk.begin (S : Dk) : Dk := if 0 < S.armed then { S with armed := S.armed - 1, dead := S.dead || decide (S.armed = 1) } else S
def Dk.find (S : Dk) (n : List UInt8) : Option Fi := S.fs.find? fun f => f.name == n
def setF (fs : List Fi) (n : List UInt8) (g : Fi → Fi) : List Fi := fs.map fun f => if f.name = n then g f else f
theorem begin_fs (S : Dk) : S.begin.fs = S.fs := by unfold Dk.begin; split <;> rfl
theorem begin_loose (S : Dk) : S.begin.loose = S.loose ∧ S.begin.nl = S.nl ∧ S.begin.quota = S.quota := by unfold Dk.begin; split <;> exact ⟨rfl, rfl, rfl⟩
theorem begin_find (S : Dk) (n : List UInt8) : S.begin.find n = S.find n := by unfold Dk.find; rw [begin_fs]
theorem begin_idle (S : Dk) (h : S.armed = 0) : S.begin = S := by unfold Dk.begin; rw [if_neg (by omega)]
theorem find_some {S : Dk} {n : List UInt8} {f : Fi} (h : S.find n = some f) : f ∈ S.fs ∧ f.name = n := by
  unfold Dk.find at h
  exact ⟨List.mem_of_find?_eq_some h, by simpa using List.find?_some h⟩
theorem find_none {S : Dk} {n : List UInt8} (h : S.find n = none) : ∀ f ∈ S.fs, f.name ≠ n := by
  unfold Dk.find at h
  rw [List.find?_eq_none] at h
  intro f hf e
  exact h f hf (by simp [e])
theorem setF_len (fs : List Fi) (n : List UInt8) (g : Fi → Fi) : (setF fs n g).length = fs.length := by simp [setF]
theorem mem_setF {fs : List Fi} {n : List UInt8} {g : Fi → Fi} {f : Fi} (h : f ∈ setF fs n g) : (f ∈ fs ∧ f.name ≠ n) ∨ ∃ f0 ∈ fs, f0.name = n ∧ f = g f0 := by
  obtain ⟨f0, h0, e⟩ := List.mem_map.1 h
  by_cases hn : f0.name = n
  · rw [if_pos hn] at e; exact .inr ⟨f0, h0, hn, e.symm⟩
  · rw [if_neg hn] at e; subst e; exact .inl ⟨h0, hn⟩
theorem setF_names {fs : List Fi} {n : List UInt8} {g : Fi → Fi} (hg : ∀ f, (g f).name = f.name) : (setF fs n g).map Fi.name = fs.map Fi.name := by
  unfold setF
  rw [List.map_map]
  refine List.map_congr_left fun f _ => ?_
  show (if f.name = n then g f else f).name = f.name
  split
  · exact hg f
  · rfl

/-! the operations -/
def Dk.create (S : Dk) (n : List UInt8) : Dk × Nat :=
  if S.begin.dead then (S.begin, 6) else if rightB n = false then (S.begin, 1) else if (S.find n).isSome then (S.begin, 4) else ({ S.begin with fs := S.fs ++ [⟨n, [], []⟩] }, 0)
/-- the sectors that bytes at a place touch. -/
def hits (off len : Nat) (k : Int) : Bool := (List.range len).any fun i => ((off + i) / 64 : Nat) == k
def overZ (l : List UInt8) (p : Nat) (m : List UInt8) : List UInt8 := l.take p ++ m ++ l.drop (p + m.length)
def Dk.wrote (S : Dk) (n : List UInt8) (off : Nat) (b : List UInt8) : Dk :=
  { S with fs := setF S.fs n fun f => { f with now := overZ f.now off b }, loose := fun s k => (s == n && hits off b.length k) || S.loose s k, nl := S.nl + b.length }
def Dk.write (S : Dk) (n : List UInt8) (off : Int) (b : List UInt8) : Dk × Nat :=
  if S.begin.dead then (S.begin, 6) else if rightB n = false ∨ off < 0 then (S.begin, 1) else
  match S.find n with
  | none => (S.begin, 3)
  | some f =>
    if (f.now.length : Int) < off then (S.begin, 1) else if 16777216 - off < b.length then (S.begin, 9) else
    if 0 < (sectors (max f.now.length (off.toNat + b.length)) : Int) - sectors f.now.length ∧ (S.quota : Int) < S.used + ((sectors (max f.now.length (off.toNat + b.length)) : Int) - sectors f.now.length) then (S.begin, 5)
    else (S.begin.wrote n off.toNat b, 0)
def Dk.cutTo (S : Dk) (n : List UInt8) (k : Nat) : Dk :=
  { S with fs := setF S.fs n fun f => { f with now := f.now.take k, lasts := f.lasts.take k }, loose := fun s j => S.loose s j && !(s == n && decide ((sectors k : Int) ≤ j)) }
def Dk.cut (S : Dk) (n : List UInt8) (k : Int) : Dk × Nat :=
  if S.begin.dead then (S.begin, 6) else if rightB n = false ∨ k < 0 then (S.begin, 1) else
  match S.find n with
  | none => (S.begin, 3)
  | some f => if (f.now.length : Int) < k then (S.begin, 1) else (S.begin.cutTo n k.toNat, 0)
def Dk.synced (S : Dk) (n : List UInt8) : Dk :=
  { S with fs := setF S.fs n fun f => { f with lasts := f.now }, loose := fun s j => S.loose s j && !(s == n) }
def Dk.sync (S : Dk) (n : List UInt8) : Dk × Nat :=
  if S.begin.dead then (S.begin, 6) else if rightB n = false then (S.begin, 1) else
  match S.find n with
  | none => (S.begin, 3)
  | some _ => (S.begin.synced n, 0)
def Dk.size (S : Dk) (n : List UInt8) : Nat × Nat :=
  if S.dead then (0, 6) else if rightB n = false then (0, 1) else
  match S.find n with
  | none => (0, 3)
  | some f => (f.now.length, 0)
def Dk.read (S : Dk) (n : List UInt8) (off k : Int) : List UInt8 × Nat :=
  if S.dead then ([], 6) else if rightB n = false ∨ off < 0 ∨ k < 0 then ([], 1) else
  match S.find n with
  | none => ([], 3)
  | some f => ((f.now.drop off.toNat).take k.toNat, 0)
end Go.Proofs.YtkfokgjpeaibpaaGreat

/- The name of a file. -/
namespace Go.Proofs.YtkfokgjpeaibpaaGreat
abbrev an : List UInt8 := [97]
theorem an_right : rightB an = true := by decide
end Go.Proofs.YtkfokgjpeaibpaaGreat
