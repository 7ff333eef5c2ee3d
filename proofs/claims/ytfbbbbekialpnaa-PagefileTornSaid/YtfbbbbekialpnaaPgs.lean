/-
  A disk with one file of pages: what it holds, and what is done with it.
-/
import Derived.Test.YtfbbbbekialpnaaPf2
import Derived.Test.YtfbbbbekialpnaaDk
namespace Go.Proofs.Ytfbbbbekialpnaa
open Go.RowKit
set_option maxRecDepth 100000
set_option maxHeartbeats 400000

structure PgS (q : Nat) (S : Dk) (n : Nat) (g : Nat → List UInt8) (m : Nat) : Prop where
  idle : Idle S
  quota : S.quota = q
  nl : S.nl ≤ 256 * m
  file : ∃ c la, S.fs = [⟨an, c, la⟩] ∧ Holds c (crcS an) n g
section
variable {q n m : Nat} {S : Dk} {g : Nat → List UInt8}
theorem PgS.find (h : PgS q S n g m) : ∃ c la, S.find an = some ⟨an, c, la⟩ ∧ Holds c (crcS an) n g := by
  obtain ⟨c, la, e, hh⟩ := h.file
  exact ⟨c, la, by unfold Dk.find; rw [e]; simp, hh⟩
theorem PgS.size (h : PgS q S n g m) : S.size an = (256 * n, 0) := by
  obtain ⟨c, la, hf, hh⟩ := h.find
  rw [size_idle h.idle an_right hf]
  exact congrArg (·, 0) hh.len
theorem PgS.pages (h : PgS q S n g m) : S.ppages an = (n, 0) := by
  unfold Dk.ppages; rw [h.size]; simp
theorem PgS.used (h : PgS q S n g m) : S.used = 4 * n := by
  obtain ⟨c, la, e, hh⟩ := h.file
  unfold Dk.used; rw [e]; simp [hh.len, sectors]; omega
theorem PgS.read_ (h : PgS q S n g m) (k : Nat) : (S.read an ((k : Int) * 256) 256).1 = pgA ((S.find an).elim [] Fi.now) k := by
  obtain ⟨c, la, hf, hh⟩ := h.find
  have := read_idle (p := k * 256) (k := 256) h.idle an_right hf
  rw [show ((k * 256 : Nat) : Int) = (k : Int) * 256 from by push_cast; rfl] at this
  rw [show ((256 : Nat) : Int) = 256 from rfl] at this
  rw [this, hf]
  show _ = pgA c k
  unfold pgA
  rw [Nat.mul_comm]
theorem pread_of {S : Dk} {nm : List UInt8} {n : Nat} (hs : S.size nm = (256 * n, 0)) {k : Nat} (hk : k < n) : S.pread nm k = match pagO (S.read nm ((k : Int) * 256) 256).1 (crcS nm) k with | none => ([], 7) | some b => (b, 0) := by
  unfold Dk.pread
  rw [hs, if_neg (by omega), if_neg (by simp), if_neg (by simp; omega), Int.toNat_natCast]
  rfl
theorem PgS.pread (h : PgS q S n g m) {k : Nat} (hk : k < n) : S.pread an k = (g k, 0) := by
  rw [pread_of h.size hk, h.read_ k]
  obtain ⟨c, la, hf, hh⟩ := h.find
  rw [hf]
  show (match pagO (pgA c k) (crcS an) k with | none => ([], 7) | some b => (b, 0)) = _
  rw [hh.at_ k hk]
def updG (g : Nat → List UInt8) (k : Nat) (b : List UInt8) : Nat → List UInt8 := fun i => if i = k then b else g i
theorem PgS.write (h : PgS q S n g m) {k : Nat} (hk : k ≤ n) (hn : n ≤ 1000) (hq : 4 * (n + 1) ≤ q) {b : List UInt8} (hb : b.length ≤ 240) :
    (S.pwrite an k b).2 = 0 ∧ PgS q (S.pwrite an k b).1 (max n (k + 1)) (updG g k b) (m + 1) := by
  obtain ⟨c, la, e, hh⟩ := h.file
  have hf : S.find an = some ⟨an, c, la⟩ := by unfold Dk.find; rw [e]; simp
  have hl := pagB_len (tag := crcS an) (k := k) hb
  have hw : S.write an ((k : Int) * 256) (pagB (crcS an) k b) = (S.wrote an (k * 256) (pagB (crcS an) k b), 0) := by
    have := write_idle (S := S) (f := ⟨an, c, la⟩) (n := an) (p := k * 256) (b := pagB (crcS an) k b) h.idle an_right hf (by show k * 256 ≤ c.length; rw [hh.len]; omega) (by rw [hl]; omega) (by
      intro hx
      have hu := h.used
      have hx2 := hx.2
      unfold moreS at hx2
      rw [h.quota, hu, hl] at hx2
      have e1 : (⟨an, c, la⟩ : Fi).now.length = 256 * n := hh.len
      rw [e1] at hx2
      unfold sectors at hx2
      omega)
    rw [show ((k * 256 : Nat) : Int) = (k : Int) * 256 from by push_cast; rfl] at this
    exact this
  have hp : S.pwrite an k b = (S.wrote an (k * 256) (pagB (crcS an) k b), 0) := by
    unfold Dk.pwrite
    rw [h.size, if_neg (by omega), if_neg (by omega), if_neg (by simp), if_neg (by simp; omega), Int.toNat_natCast, hw]
  rw [hp]
  refine ⟨rfl, ⟨h.idle.1, h.idle.2⟩, h.quota, ?_, overZ c (k * 256) (pagB (crcS an) k b), la, ?_, ?_⟩
  · show S.nl + (pagB (crcS an) k b).length ≤ _
    rw [hl]; have := h.nl; omega
  · unfold Dk.wrote setF
    rw [e]
    simp
  · rw [Nat.mul_comm k]
    exact hh.write hk (by omega) (crcE_lt _ _) hb
theorem PgS.sync (h : PgS q S n g m) : (S.sync an).2 = 0 ∧ PgS q (S.sync an).1 n g m := by
  obtain ⟨c, la, e, hh⟩ := h.file
  have hf : S.find an = some ⟨an, c, la⟩ := by unfold Dk.find; rw [e]; simp
  rw [sync_idle h.idle an_right hf]
  refine ⟨rfl, ⟨h.idle.1, h.idle.2⟩, h.quota, h.nl, c, c, ?_, hh⟩
  unfold Dk.synced setF
  rw [e]
  simp
theorem newD_idle (q : Nat) : Idle (newD q) := ⟨rfl, rfl⟩
theorem PgS.create (q : Nat) (g : Nat → List UInt8) : ((newD q).create an).2 = 0 ∧ PgS q ((newD q).create an).1 0 g 0 := by
  rw [create_idle (newD_idle q) an_right rfl]
  exact ⟨rfl, ⟨rfl, rfl⟩, rfl, by simp [newD], [], [], by simp [newD], Holds.nil _ _⟩
end
/-- .. in memory. -/
def PgW (w0 w : World) (d pf q n : Nat) (g : Nat → List UInt8) (m : Nat) : Prop := ∃ o c S, DI w w0.heap.size o d S c ∧ PgS q S n g m ∧ PfR w w0.heap.size o d pf an ∧ w0.grownBy w none
section
variable {w0 w w' : World} {d pf q n m : Nat} {g : Nat → List UInt8}
theorem PgW.gr (h : PgW w0 w d pf q n g m) : w0.grownBy w none := by obtain ⟨_, _, _, _, _, _, h⟩ := h; exact h
theorem PgW.ext (h : PgW w0 w d pf q n g m) (hg : w.grownBy w' none) : PgW w0 w' d pf q n g m := by
  obtain ⟨o, c, S, h1, h2, h3, h4⟩ := h
  exact ⟨o, c, S, h1.ext hg, h2, h3.ext hg, gr_none h4 hg⟩
theorem PgW.pages (h : PgW w0 w d pf q n g m) : Calls Try.prog 40 #[.pointer (some ⟨pf, 0, none⟩)] w fun e w' => e = .returned (.tuple #[.int .i64 n, .int .i64 0]) ∧ w.grownBy w' none := by
  obtain ⟨o, c, S, h1, h2, h3, h4⟩ := h
  have := pages_any h1 h3 (by simp)
  rw [h2.pages] at this
  exact this
theorem PgW.read (h : PgW w0 w d pf q n g m) {k : Nat} (hk : k < n) (hn : n ≤ 1000) : Calls Try.prog 41 #[.pointer (some ⟨pf, 0, none⟩), .int .i64 k] w fun e w' => (∃ v, e = .returned (.tuple #[v, .int .i64 0]) ∧ OwnB w' w.heap.size v (g k)) ∧ w.grownBy w' none := by
  obtain ⟨o, c, S, h1, h2, h3, h4⟩ := h
  have := pread_any h1 h3 (by simp) k (by omega)
  rw [h2.pread hk] at this
  exact this
theorem PgW.write (h : PgW w0 w d pf q n g m) {k : Nat} (hk : k ≤ n) (hn : n ≤ 1000) (hm : m ≤ 1000000) (hq : 4 * (n + 1) ≤ q) {bv : Value} {b : List UInt8} (hb : RdB w bv b) (hb2 : b.length ≤ 240) :
    Calls Try.prog 37 #[.pointer (some ⟨pf, 0, none⟩), .int .i64 k, bv] w fun e w' => e = .returned (.int .i64 0) ∧ PgW w0 w' d pf q (max n (k + 1)) (updG g k b) (m + 1) := by
  obtain ⟨o, c, S, h1, h2, h3, h4⟩ := h
  have hfs : S.fs.length = 1 := by obtain ⟨c', la, e, _⟩ := h2.file; rw [e]; rfl
  refine (pwrite_any h1 h3 (by simp) k (by omega) bv b hb (by omega) (by omega) (by have := h2.nl; omega)).mono ?_
  obtain ⟨e0, hS⟩ := h2.write hk hn hq hb2
  rintro e w' ⟨rfl, o', c', h1', ch⟩
  exact ⟨by rw [e0]; rfl, o', c', _, h1', hS, h3.ch ch, ch.gr h4 fun i hi => (h1.inb i hi).1⟩
theorem PgW.sync (h : PgW w0 w d pf q n g m) : Calls Try.prog 39 #[.pointer (some ⟨pf, 0, none⟩)] w fun e w' => e = .returned (.int .i64 0) ∧ PgW w0 w' d pf q n g m := by
  obtain ⟨o, c, S, h1, h2, h3, h4⟩ := h
  refine (psync_any h1 h3 (by simp)).mono ?_
  obtain ⟨e0, hS⟩ := h2.sync
  rintro e w' ⟨rfl, o', c', h1', ch⟩
  exact ⟨by rw [e0]; rfl, o', c', _, h1', hS, h3.ch ch, ch.gr h4 fun i hi => (h1.inb i hi).1⟩
theorem pcreate_new (w0 w : World) (d q : Nat) (o : Own1) (c : Con) (h : DI w w0.heap.size o d (newD q) c) (hg : w0.grownBy w none) (g : Nat → List UInt8) :
    Calls Try.prog 73 #[.pointer (some ⟨d, 0, none⟩), .string ⟨an.toArray⟩] w fun e w' => ∃ pf, e = .returned (.tuple #[.pointer (some ⟨pf, 0, none⟩), .int .i64 0]) ∧ PgW w0 w' d pf q 0 g 0 := by
  refine (pcreate_any h (n := an) (by simp) (by simp [newD])).mono ?_
  obtain ⟨e0, hS⟩ := PgS.create q g
  rintro e w' ⟨o', c', h1, ch, ⟨_, pf, rfl, _, hp⟩ | ⟨hne, _⟩⟩
  · exact ⟨pf, rfl, o', c', _, h1, hS, hp, ch.gr hg fun i hi => (h.inb i hi).1⟩
  · exact absurd e0 hne
theorem pname_any (h : PgW w0 w d pf q n g m) : Calls Try.prog 74 #[.pointer (some ⟨pf, 0, none⟩)] w fun e w' => e = .returned (.string ⟨an.toArray⟩) ∧ w = w' := by
  obtain ⟨o, c, S, h1, h2, h3, h4⟩ := h
  have hc := h3.cells.2.1
  clear h1 h2 h3 h4
  go_enter Try.func74, Try.ntmps74
  go_wp2
  go_ret
  exact ⟨rfl, rfl⟩
end
end Go.Proofs.Ytfbbbbekialpnaa
