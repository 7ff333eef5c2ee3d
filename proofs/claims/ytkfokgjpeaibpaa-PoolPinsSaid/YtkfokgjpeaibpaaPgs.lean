/-
  pool, any of it: what its functions do, as plain data.
-/
import Derived.Test.YtkfokgjpeaibpaaPo3
import Derived.Test.YtkfokgjpeaibpaaRm
import Derived.Test.YtkfokgjpeaibpaaPf2
import Derived.Test.YtkfokgjpeaibpaaDk
namespace Go.Proofs.Ytkfokgjpeaibpaa
set_option maxRecDepth 100000

structure Pm where
  fr : List Fr
  hand : Nat
  mf : Nat
  mp : Nat
def Fr.clean (f : Fr) : Fr := { f with dirty := false }
def Fr.rest (f : Fr) : Fr := { f with used := false }
def Fr.usedUp (f : Fr) : Fr := { f with used := true }
def Pm.noted (Q : Pm) : Pm := { Q with mf := max Q.mf (heldN Fr.full Q.fr), mp := max Q.mp (heldN (fun f => decide (0 < f.pins)) Q.fr) }
def isP (n : List UInt8) (k : Int) (f : Fr) : Bool := f.full && (f.n == n && f.k == k)
def Pm.at (Q : Pm) (n : List UInt8) (k : Int) : Option Nat := Q.fr.findIdx? (isP n k)
def Pm.free (Q : Pm) : Option Nat := Q.fr.findIdx? fun f => !f.full
def Pm.set (Q : Pm) (i : Nat) (x : Fr) : Pm := { Q with fr := Q.fr.set i x }
def Pm.fill (Q : Pm) (i : Nat) (f : Fr) : Pm := (Q.set i { f with full := true }).noted
/-- the hand goes round. -/
def clock : Nat → List Fr → Nat → List Fr × Nat
  | 0, fr, i => (fr, i)
  | t + 1, fr, i => match fr[i]? with
    | none => (fr, i)
    | some f => if 0 < f.pins then clock t fr ((i + 1) % fr.length) else if f.used then clock t (fr.set i f.rest) ((i + 1) % fr.length) else (fr, i)
theorem clock_len : ∀ (t : Nat) (fr : List Fr) (i : Nat), (clock t fr i).1.length = fr.length
  | 0, _, _ => rfl
  | t + 1, fr, i => by
    unfold clock
    split
    · rfl
    · split
      · exact clock_len t _ _
      · split
        · rw [clock_len t]; simp
        · rfl
theorem clock_lt : ∀ (t : Nat) (fr : List Fr) (i : Nat), i < fr.length → (clock t fr i).2 < fr.length
  | 0, _, _, h => h
  | t + 1, fr, i, h => by
    unfold clock
    split
    · exact h
    · split
      · exact clock_lt t _ _ (Nat.mod_lt _ (by omega))
      · split
        · have := clock_lt t (fr.set i (by assumption : Fr).rest) ((i + 1) % fr.length) (by simp; exact Nat.mod_lt _ (by omega))
          simpa using this
        · exact h
def dirtyF (n : List UInt8) (a b : Int) (f : Fr) : Bool := f.full && (f.dirty && (f.n == n && (decide (a ≤ f.k) && decide (f.k < b))))
def dirtyIx (fr : List Fr) (n : List UInt8) (a b : Int) : List Nat := (List.range fr.length).filter fun i => match fr[i]? with
  | none => false
  | some f => dirtyF n a b f
def kOf (fr : List Fr) (i : Nat) : Int := match fr[i]? with
  | some f => f.k
  | none => 0
/-- the dirty frames of a file, from a page on, below another one, rising. -/
def dirtyL (fr : List Fr) (n : List UInt8) (a b : Int) : List Nat := (dirtyIx fr n a b).mergeSort fun i j => decide (kOf fr i ≤ kOf fr j)
/-- frames, disk, error. -/
structure PutR where
  fr : List Fr
  S : Dk
  e : Nat
def putL (n : List UInt8) : List Nat → List Fr → Dk → PutR
  | [], fr, S => ⟨fr, S, 0⟩
  | i :: l, fr, S => match fr[i]? with
    | none => ⟨fr, S, 0⟩
    | some f => if (S.pwrite n f.k f.b).2 ≠ 0 then ⟨fr, (S.pwrite n f.k f.b).1, (S.pwrite n f.k f.b).2⟩ else putL n l (fr.set i f.clean) (S.pwrite n f.k f.b).1
def backP (fr : List Fr) (S : Dk) (i : Nat) : PutR := match fr[i]? with
  | none => ⟨fr, S, 0⟩
  | some f => if (S.pgs f.n).2 ≠ 0 then ⟨fr, S, (S.pgs f.n).2⟩ else putL f.n (dirtyL fr f.n (S.pgs f.n).1 f.k ++ [i]) fr S
/-- a place, an error, the pool, the disk. -/
structure TakeR where
  i : Nat
  e : Nat
  Q : Pm
  S : Dk
def takeC (Q : Pm) (S : Dk) (fr : List Fr) (i : Nat) : TakeR := match fr[i]? with
  | none => ⟨0, 10, Q, S⟩
  | some f =>
    if 0 < f.pins ∨ f.used = true then ⟨0, 10, { Q with fr := fr }, S⟩
    else if f.dirty = true then
      if (backP fr S i).e ≠ 0 then ⟨0, (backP fr S i).e, { Q with fr := (backP fr S i).fr, hand := i }, (backP fr S i).S⟩
      else ⟨i, 0, { Q with fr := (backP fr S i).fr.set i fr0, hand := (i + 1) % fr.length }, (backP fr S i).S⟩
    else ⟨i, 0, { Q with fr := fr.set i fr0, hand := (i + 1) % fr.length }, S⟩
def Pm.take (Q : Pm) (S : Dk) : TakeR := match Q.free with
  | some i => ⟨i, 0, Q, S⟩
  | none => takeC Q S (clock (2 * Q.fr.length) Q.fr Q.hand).1 (clock (2 * Q.fr.length) Q.fr Q.hand).2
/-- how many pages, or an error. -/
def Pm.pages (Q : Pm) (S : Dk) (n : List UInt8) : Int × Nat := if (S.pgs n).2 ≠ 0 then (0, (S.pgs n).2) else (pagesN Q.fr n (S.pgs n).1, 0)
def frR (n : List UInt8) (k : Int) (b : List UInt8) (v : Value) : Fr := ⟨true, n, k, b, v, 0, false, true⟩
def bringR (Q : Pm) (S : Dk) (n : List UInt8) (k : Int) (v : Value) : TakeR :=
  if (S.pread n k).2 ≠ 0 then ⟨0, (S.pread n k).2, Q, S⟩
  else if (Q.take S).e ≠ 0 then ⟨0, (Q.take S).e, (Q.take S).Q, (Q.take S).S⟩
  else ⟨(Q.take S).i, 0, (Q.take S).Q.fill (Q.take S).i (frR n k (S.pread n k).1 v), (Q.take S).S⟩
/-- v: where the page that comes in lies. -/
def Pm.bring (Q : Pm) (S : Dk) (n : List UInt8) (k : Int) (v : Value) : TakeR :=
  if (Q.pages S n).2 ≠ 0 then ⟨0, (Q.pages S n).2, Q, S⟩
  else if k < 0 then ⟨0, 1, Q, S⟩
  else if (Q.pages S n).1 ≤ k then ⟨0, 3, Q, S⟩
  else match Q.at n k with
  | some i => ⟨i, 0, { Q with fr := Q.fr.modify i Fr.usedUp }, S⟩
  | none => bringR Q S n k v
def Pm.bytes (Q : Pm) (i : Nat) : List UInt8 := match Q.fr[i]? with
  | some f => f.b
  | none => []
/-- bytes, error, pool, disk. -/
structure ReadR where
  b : List UInt8
  e : Nat
  Q : Pm
  S : Dk
def Pm.read (Q : Pm) (S : Dk) (n : List UInt8) (k : Int) (v : Value) : ReadR :=
  if (Q.bring S n k v).e ≠ 0 then ⟨[], (Q.bring S n k v).e, (Q.bring S n k v).Q, (Q.bring S n k v).S⟩
  else ⟨(Q.bring S n k v).Q.bytes (Q.bring S n k v).i, 0, (Q.bring S n k v).Q, (Q.bring S n k v).S⟩
def Pm.pinUp (Q : Pm) (i : Nat) : Pm := ({ Q with fr := Q.fr.modify i fun f => { f with pins := f.pins + 1 } } : Pm).noted
def Pm.pin (Q : Pm) (S : Dk) (n : List UInt8) (k : Int) (v : Value) : ReadR :=
  if (Q.bring S n k v).e ≠ 0 then ⟨[], (Q.bring S n k v).e, (Q.bring S n k v).Q, (Q.bring S n k v).S⟩
  else ⟨(Q.bring S n k v).Q.bytes (Q.bring S n k v).i, 0, (Q.bring S n k v).Q.pinUp (Q.bring S n k v).i, (Q.bring S n k v).S⟩
def Pm.pinsAt (Q : Pm) (i : Nat) : Nat := match Q.fr[i]? with
  | some f => f.pins
  | none => 0
def Pm.unpin (Q : Pm) (n : List UInt8) (k : Int) : Pm × Nat := match Q.at n k with
  | none => (Q, 3)
  | some i => if Q.pinsAt i = 0 then (Q, 3) else ({ Q with fr := Q.fr.modify i fun f => { f with pins := f.pins - 1 } }, 0)
def Pm.wrote (Q : Pm) (i : Nat) (b : List UInt8) (v : Value) : Pm := { Q with fr := Q.fr.modify i fun f => { f with b := b, bv := v, dirty := true, used := true } }
structure WriteR where
  e : Nat
  Q : Pm
  S : Dk
def Pm.write (Q : Pm) (S : Dk) (n : List UInt8) (k : Int) (b : List UInt8) (v : Value) : WriteR :=
  if 240 < b.length then ⟨9, Q, S⟩
  else if (Q.pages S n).2 ≠ 0 then ⟨(Q.pages S n).2, Q, S⟩
  else if k < 0 ∨ (Q.pages S n).1 < k then ⟨1, Q, S⟩
  else match Q.at n k with
  | some i => ⟨0, Q.wrote i b v, S⟩
  | none => if (Q.take S).e ≠ 0 then ⟨(Q.take S).e, (Q.take S).Q, (Q.take S).S⟩
    else ⟨0, ((Q.take S).Q.fill (Q.take S).i ⟨true, n, k, [], .slice none 0 0, 0, false, false⟩).wrote (Q.take S).i b v, (Q.take S).S⟩
def Pm.flush (Q : Pm) (S : Dk) (n : List UInt8) : WriteR :=
  if (S.pgs n).2 ≠ 0 then ⟨(S.pgs n).2, Q, S⟩
  else if (putL n (dirtyL Q.fr n 0 16777216) Q.fr S).e ≠ 0 then ⟨(putL n (dirtyL Q.fr n 0 16777216) Q.fr S).e, { Q with fr := (putL n (dirtyL Q.fr n 0 16777216) Q.fr S).fr }, (putL n (dirtyL Q.fr n 0 16777216) Q.fr S).S⟩
  else ⟨((putL n (dirtyL Q.fr n 0 16777216) Q.fr S).S.sync n).2, { Q with fr := (putL n (dirtyL Q.fr n 0 16777216) Q.fr S).fr }, ((putL n (dirtyL Q.fr n 0 16777216) Q.fr S).S.sync n).1⟩
def ofN (n : List UInt8) (f : Fr) : Bool := f.full && f.n == n
def Pm.drop (Q : Pm) (S : Dk) (n : List UInt8) : WriteR :=
  if (Q.fr.any fun f => ofN n f && decide (0 < f.pins)) = true then ⟨10, Q, S⟩
  else ⟨(S.remove n).2, { Q with fr := Q.fr.map fun f => if ofN n f then fr0 else f }, (S.remove n).1⟩
end Go.Proofs.Ytkfokgjpeaibpaa

/- A disk with one file of pages: what it holds, and what is done with it. -/
namespace Go.Proofs.Ytkfokgjpeaibpaa
open Go.RowKit
set_option maxRecDepth 100000
set_option maxHeartbeats 400000

structure PgS (q : Nat) (S : Dk) (n : Nat) (g : Nat → List UInt8) (m : Nat) : Prop where
  idle : Idle S
  quota : S.quota = q
  nl : S.nl ≤ 256 * m
  file : ∃ c la, S.fs = [⟨an, c, la⟩] ∧ Holds c (crcS an) n g
section
variable {q n m : Nat} {S : Dk} {g : Nat → List UInt8}
theorem PgS.find (h : PgS q S n g m) : ∃ c la, S.find an = some ⟨an, c, la⟩ ∧ Holds c (crcS an) n g := by
  obtain ⟨c, la, e, hh⟩ := h.file
  exact ⟨c, la, by unfold Dk.find; rw [e]; simp, hh⟩
theorem PgS.size (h : PgS q S n g m) : S.size an = (256 * n, 0) := by
  obtain ⟨c, la, hf, hh⟩ := h.find
  rw [size_idle h.idle an_right hf]
  exact congrArg (·, 0) hh.len
theorem PgS.pages (h : PgS q S n g m) : S.ppages an = (n, 0) := by
  unfold Dk.ppages; rw [h.size]; simp
theorem PgS.used (h : PgS q S n g m) : S.used = 4 * n := by
  obtain ⟨c, la, e, hh⟩ := h.file
  unfold Dk.used; rw [e]; simp [hh.len, sectors]; omega
theorem PgS.read_ (h : PgS q S n g m) (k : Nat) : (S.read an ((k : Int) * 256) 256).1 = pgA ((S.find an).elim [] Fi.now) k := by
  obtain ⟨c, la, hf, hh⟩ := h.find
  have := read_idle (p := k * 256) (k := 256) h.idle an_right hf
  rw [show ((k * 256 : Nat) : Int) = (k : Int) * 256 from by push_cast; rfl] at this
  rw [show ((256 : Nat) : Int) = 256 from rfl] at this
  rw [this, hf]
  show _ = pgA c k
  unfold pgA
  rw [Nat.mul_comm]
theorem pread_of {S : Dk} {nm : List UInt8} {n : Nat} (hs : S.size nm = (256 * n, 0)) {k : Nat} (hk : k < n) : S.pread nm k = match pagO (S.read nm ((k : Int) * 256) 256).1 (crcS nm) k with | none => ([], 7) | some b => (b, 0) := by
  unfold Dk.pread
  rw [hs, if_neg (by omega), if_neg (by simp), if_neg (by simp; omega), Int.toNat_natCast]
  rfl
theorem PgS.pread (h : PgS q S n g m) {k : Nat} (hk : k < n) : S.pread an k = (g k, 0) := by
  rw [pread_of h.size hk, h.read_ k]
  obtain ⟨c, la, hf, hh⟩ := h.find
  rw [hf]
  show (match pagO (pgA c k) (crcS an) k with | none => ([], 7) | some b => (b, 0)) = _
  rw [hh.at_ k hk]
def updG (g : Nat → List UInt8) (k : Nat) (b : List UInt8) : Nat → List UInt8 := fun i => if i = k then b else g i
theorem PgS.write (h : PgS q S n g m) {k : Nat} (hk : k ≤ n) (hn : n ≤ 1000) (hq : 4 * (n + 1) ≤ q) {b : List UInt8} (hb : b.length ≤ 240) :
    (S.pwrite an k b).2 = 0 ∧ PgS q (S.pwrite an k b).1 (max n (k + 1)) (updG g k b) (m + 1) := by
  obtain ⟨c, la, e, hh⟩ := h.file
  have hf : S.find an = some ⟨an, c, la⟩ := by unfold Dk.find; rw [e]; simp
  have hl := pagB_len (tag := crcS an) (k := k) hb
  have hw : S.write an ((k : Int) * 256) (pagB (crcS an) k b) = (S.wrote an (k * 256) (pagB (crcS an) k b), 0) := by
    have := write_idle (S := S) (f := ⟨an, c, la⟩) (n := an) (p := k * 256) (b := pagB (crcS an) k b) h.idle an_right hf (by show k * 256 ≤ c.length; rw [hh.len]; omega) (by rw [hl]; omega) (by
      intro hx
      have hu := h.used
      have hx2 := hx.2
      unfold moreS at hx2
      rw [h.quota, hu, hl] at hx2
      have e1 : (⟨an, c, la⟩ : Fi).now.length = 256 * n := hh.len
      rw [e1] at hx2
      unfold sectors at hx2
      omega)
    rw [show ((k * 256 : Nat) : Int) = (k : Int) * 256 from by push_cast; rfl] at this
    exact this
  have hp : S.pwrite an k b = (S.wrote an (k * 256) (pagB (crcS an) k b), 0) := by
    unfold Dk.pwrite
    rw [h.size, if_neg (by omega), if_neg (by omega), if_neg (by simp), if_neg (by simp; omega), Int.toNat_natCast, hw]
  rw [hp]
  refine ⟨rfl, ⟨h.idle.1, h.idle.2⟩, h.quota, ?_, overZ c (k * 256) (pagB (crcS an) k b), la, ?_, ?_⟩
  · show S.nl + (pagB (crcS an) k b).length ≤ _
    rw [hl]; have := h.nl; omega
  · unfold Dk.wrote setF
    rw [e]
    simp
  · rw [Nat.mul_comm k]
    exact hh.write hk (by omega) (crcE_lt _ _) hb
theorem PgS.sync (h : PgS q S n g m) : (S.sync an).2 = 0 ∧ PgS q (S.sync an).1 n g m := by
  obtain ⟨c, la, e, hh⟩ := h.file
  have hf : S.find an = some ⟨an, c, la⟩ := by unfold Dk.find; rw [e]; simp
  rw [sync_idle h.idle an_right hf]
  refine ⟨rfl, ⟨h.idle.1, h.idle.2⟩, h.quota, h.nl, c, c, ?_, hh⟩
  unfold Dk.synced setF
  rw [e]
  simp
theorem newD_idle (q : Nat) : Idle (newD q) := ⟨rfl, rfl⟩
theorem PgS.create (q : Nat) (g : Nat → List UInt8) : ((newD q).create an).2 = 0 ∧ PgS q ((newD q).create an).1 0 g 0 := by
  rw [create_idle (newD_idle q) an_right rfl]
  exact ⟨rfl, ⟨rfl, rfl⟩, rfl, by simp [newD], [], [], by simp [newD], Holds.nil _ _⟩
end
/-- .. in memory. -/
def PgW (w0 w : World) (d pf q n : Nat) (g : Nat → List UInt8) (m : Nat) : Prop := ∃ o c S, DI w w0.heap.size o d S c ∧ PgS q S n g m ∧ PfR w w0.heap.size o d pf an ∧ w0.grownBy w none
section
variable {w0 w w' : World} {d pf q n m : Nat} {g : Nat → List UInt8}
theorem PgW.gr (h : PgW w0 w d pf q n g m) : w0.grownBy w none := by obtain ⟨_, _, _, _, _, _, h⟩ := h; exact h
theorem PgW.ext (h : PgW w0 w d pf q n g m) (hg : w.grownBy w' none) : PgW w0 w' d pf q n g m := by
  obtain ⟨o, c, S, h1, h2, h3, h4⟩ := h
  exact ⟨o, c, S, h1.ext hg, h2, h3.ext hg, gr_none h4 hg⟩
theorem PgW.pages (h : PgW w0 w d pf q n g m) : Calls Try.prog 53 #[.pointer (some ⟨pf, 0, none⟩)] w fun e w' => e = .returned (.tuple #[.int .i64 n, .int .i64 0]) ∧ w.grownBy w' none := by
  obtain ⟨o, c, S, h1, h2, h3, h4⟩ := h
  have := pages_any h1 h3 (by simp)
  rw [h2.pages] at this
  exact this
theorem PgW.read (h : PgW w0 w d pf q n g m) {k : Nat} (hk : k < n) (hn : n ≤ 1000) : Calls Try.prog 54 #[.pointer (some ⟨pf, 0, none⟩), .int .i64 k] w fun e w' => (∃ v, e = .returned (.tuple #[v, .int .i64 0]) ∧ OwnB w' w.heap.size v (g k)) ∧ w.grownBy w' none := by
  obtain ⟨o, c, S, h1, h2, h3, h4⟩ := h
  have := pread_any h1 h3 (by simp) k (by omega)
  rw [h2.pread hk] at this
  exact this
theorem PgW.write (h : PgW w0 w d pf q n g m) {k : Nat} (hk : k ≤ n) (hn : n ≤ 1000) (hm : m ≤ 1000000) (hq : 4 * (n + 1) ≤ q) {bv : Value} {b : List UInt8} (hb : RdB w bv b) (hb2 : b.length ≤ 240) :
    Calls Try.prog 58 #[.pointer (some ⟨pf, 0, none⟩), .int .i64 k, bv] w fun e w' => e = .returned (.int .i64 0) ∧ PgW w0 w' d pf q (max n (k + 1)) (updG g k b) (m + 1) := by
  obtain ⟨o, c, S, h1, h2, h3, h4⟩ := h
  have hfs : S.fs.length = 1 := by obtain ⟨c', la, e, _⟩ := h2.file; rw [e]; rfl
  refine (pwrite_any h1 h3 (by simp) k (by omega) bv b hb (by omega) (by omega) (by have := h2.nl; omega)).mono ?_
  obtain ⟨e0, hS⟩ := h2.write hk hn hq hb2
  rintro e w' ⟨rfl, o', c', h1', ch⟩
  exact ⟨by rw [e0]; rfl, o', c', _, h1', hS, h3.ch ch, ch.gr h4 fun i hi => (h1.inb i hi).1⟩
theorem PgW.sync (h : PgW w0 w d pf q n g m) : Calls Try.prog 44 #[.pointer (some ⟨pf, 0, none⟩)] w fun e w' => e = .returned (.int .i64 0) ∧ PgW w0 w' d pf q n g m := by
  obtain ⟨o, c, S, h1, h2, h3, h4⟩ := h
  refine (psync_any h1 h3 (by simp)).mono ?_
  obtain ⟨e0, hS⟩ := h2.sync
  rintro e w' ⟨rfl, o', c', h1', ch⟩
  exact ⟨by rw [e0]; rfl, o', c', _, h1', hS, h3.ch ch, ch.gr h4 fun i hi => (h1.inb i hi).1⟩
theorem pcreate_new (w0 w : World) (d q : Nat) (o : Own1) (c : Con) (h : DI w w0.heap.size o d (newD q) c) (hg : w0.grownBy w none) (g : Nat → List UInt8) :
    Calls Try.prog 39 #[.pointer (some ⟨d, 0, none⟩), .string ⟨an.toArray⟩] w fun e w' => ∃ pf, e = .returned (.tuple #[.pointer (some ⟨pf, 0, none⟩), .int .i64 0]) ∧ PgW w0 w' d pf q 0 g 0 := by
  refine (pcreate_any h (n := an) (by simp) (by simp [newD])).mono ?_
  obtain ⟨e0, hS⟩ := PgS.create q g
  rintro e w' ⟨o', c', h1, ch, ⟨_, pf, rfl, _, hp⟩ | ⟨hne, _⟩⟩
  · exact ⟨pf, rfl, o', c', _, h1, hS, hp, ch.gr hg fun i hi => (h.inb i hi).1⟩
  · exact absurd e0 hne
end
end Go.Proofs.Ytkfokgjpeaibpaa
