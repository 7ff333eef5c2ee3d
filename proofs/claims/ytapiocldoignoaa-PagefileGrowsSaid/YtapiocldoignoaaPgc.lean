/-
  A disk with one file of whole pages, whatever its bytes: the disk's own operations on it, and Bad.
-/
import Derived.Test.YtapiocldoignoaaBad2
import Derived.Test.YtapiocldoignoaaLd
import Derived.Test.YtapiocldoignoaaDw9
import Derived.Test.YtapiocldoignoaaRotB
namespace Go.Proofs.Ytapiocldoignoaa
open Go.RowKit
set_option maxRecDepth 100000
set_option maxHeartbeats 400000

structure PgK (q : Nat) (S : Dk) (n m : Nat) (c : List UInt8) : Prop where
  idle : Idle S
  quota : S.quota = q
  nl : S.nl ≤ 256 * m
  file : ∃ la, S.fs = [⟨an, c, la⟩]
  len : c.length = 256 * n
section
variable {q n m : Nat} {S : Dk} {c : List UInt8} {g : Nat → List UInt8}
theorem PgS.k (h : PgS q S n g m) : ∃ c, PgK q S n m c ∧ Holds c (crcS an) n g := by
  obtain ⟨c, la, e, hh⟩ := h.file
  exact ⟨c, ⟨h.idle, h.quota, h.nl, ⟨la, e⟩, hh.len⟩, hh⟩
theorem PgK.s (h : PgK q S n m c) (hh : Holds c (crcS an) n g) : PgS q S n g m := by
  obtain ⟨la, e⟩ := h.file
  exact ⟨h.idle, h.quota, h.nl, c, la, e, hh⟩
theorem PgK.find (h : PgK q S n m c) : ∃ la, S.find an = some ⟨an, c, la⟩ := by
  obtain ⟨la, e⟩ := h.file
  exact ⟨la, by unfold Dk.find; rw [e]; simp⟩
theorem PgK.size (h : PgK q S n m c) : S.size an = (256 * n, 0) := by
  obtain ⟨la, hf⟩ := h.find
  rw [size_idle h.idle an_right hf]
  exact congrArg (·, 0) h.len
theorem PgK.read_ (h : PgK q S n m c) (k : Nat) : S.read an ((k : Int) * 256) 256 = (pgA c k, 0) := by
  obtain ⟨la, hf⟩ := h.find
  have := read_idle (p := k * 256) (k := 256) h.idle an_right hf
  rw [show ((k * 256 : Nat) : Int) = (k : Int) * 256 from by push_cast; rfl] at this
  rw [show ((256 : Nat) : Int) = 256 from rfl] at this
  rw [this]
  unfold pgA
  rw [Nat.mul_comm]
theorem PgK.pread (h : PgK q S n m c) {k : Nat} (hk : k < n) : S.pread an k = match pagO (pgA c k) (crcS an) k with | none => ([], 7) | some b => (b, 0) := by
  rw [pread_of h.size hk, h.read_ k]
  rfl
theorem PgK.used (h : PgK q S n m c) : S.used = 4 * n := by
  obtain ⟨la, e⟩ := h.file
  unfold Dk.used; rw [e]; simp [h.len, sectors]; omega
theorem PgK.write (h : PgK q S n m c) {k : Nat} (hk : k < n) (hn : n ≤ 1000) {p : List UInt8} (hp : p.length = 256) : S.write an ((k : Int) * 256) p = (S.wrote an (k * 256) p, 0) ∧ PgK q (S.wrote an (k * 256) p) n (m + 1) (overZ c (256 * k) p) := by
  obtain ⟨la, e⟩ := h.file
  have hf : S.find an = some ⟨an, c, la⟩ := by unfold Dk.find; rw [e]; simp
  have hl := h.len
  refine ⟨?_, ⟨h.idle.1, h.idle.2⟩, h.quota, ?_, ⟨la, ?_⟩, ?_⟩
  · have := write_idle (S := S) (f := ⟨an, c, la⟩) (n := an) (p := k * 256) (b := p) h.idle an_right hf (by show k * 256 ≤ c.length; omega) (by omega) (by
      intro hx
      have hx1 := hx.1
      unfold moreS at hx1
      rw [hp] at hx1
      have e1 : (⟨an, c, la⟩ : Fi).now.length = 256 * n := h.len
      rw [e1, show max (256 * n) (k * 256 + 256) = 256 * n from by omega] at hx1
      omega)
    rw [show ((k * 256 : Nat) : Int) = (k : Int) * 256 from by push_cast; rfl] at this
    exact this
  · show S.nl + p.length ≤ _
    have := h.nl; omega
  · unfold Dk.wrote setF
    rw [e, Nat.mul_comm k]
    simp
  · rw [overZ_len (by omega), hp, hl]; omega
theorem PgK.flip (h : PgK q S n m c) (p : Nat) (u : UInt8) : PgK q (S.flip an p u) n m (flipL c p u) := by
  obtain ⟨la, e⟩ := h.file
  refine ⟨⟨h.idle.1, h.idle.2⟩, h.quota, h.nl, ⟨flipL la p u, ?_⟩, by rw [flipL_len]; exact h.len⟩
  unfold Dk.flip setF
  rw [e]
  simp
/-- the pages that are not intact. -/
def badC (c : List UInt8) (n : Nat) : List Nat := (List.range n).filter fun k => (pagO (pgA c k) (crcS an) k).isNone
theorem PgK.bad (h : PgK q S n m c) : badL S an n = badC c n := by
  unfold badL badC
  refine List.filter_congr fun k hk => ?_
  have hk' : k < n := by simpa using hk
  unfold badB
  rw [h.pread hk']
  cases pagO (pgA c k) (crcS an) k <;> simp
end
/-- .. in memory. -/
def PgC (w0 w : World) (d pf q n m : Nat) (c : List UInt8) : Prop := ∃ o cn S, DI w w0.heap.size o d S cn ∧ PgK q S n m c ∧ PfR w w0.heap.size o d pf an ∧ w0.grownBy w none
section
variable {w0 w w' : World} {d pf q n m : Nat} {c : List UInt8} {g : Nat → List UInt8}
theorem PgW.toC (h : PgW w0 w d pf q n g m) : ∃ c, PgC w0 w d pf q n m c ∧ Holds c (crcS an) n g := by
  obtain ⟨o, cn, S, h1, h2, h3, h4⟩ := h
  obtain ⟨c, hk, hh⟩ := h2.k
  exact ⟨c, ⟨o, cn, S, h1, hk, h3, h4⟩, hh⟩
theorem PgC.toW (h : PgC w0 w d pf q n m c) (hh : Holds c (crcS an) n g) : PgW w0 w d pf q n g m := by
  obtain ⟨o, cn, S, h1, h2, h3, h4⟩ := h
  exact ⟨o, cn, S, h1, h2.s hh, h3, h4⟩
theorem PgC.gr (h : PgC w0 w d pf q n m c) : w0.grownBy w none := by obtain ⟨_, _, _, _, _, _, h⟩ := h; exact h
theorem PgC.len (h : PgC w0 w d pf q n m c) : c.length = 256 * n := by obtain ⟨_, _, _, _, h, _, _⟩ := h; exact h.len
theorem PgC.ext (h : PgC w0 w d pf q n m c) (hg : w.grownBy w' none) : PgC w0 w' d pf q n m c := by
  obtain ⟨o, cn, S, h1, h2, h3, h4⟩ := h
  exact ⟨o, cn, S, h1.ext hg, h2, h3.ext hg, gr_none h4 hg⟩
theorem PgC.size (h : PgC w0 w d pf q n m c) : Calls Try.prog 24 #[.pointer (some ⟨d, 0, none⟩), .string ⟨an.toArray⟩] w fun e w' => e = .returned (.tuple #[.int .i64 (256 * n : Nat), .int .i64 0]) ∧ w.grownBy w' none := by
  obtain ⟨o, cn, S, h1, h2, h3, h4⟩ := h
  have := size_any h1 an (by simp)
  rw [h2.size] at this
  exact this
theorem PgC.bad (h : PgC w0 w d pf q n m c) : Calls Try.prog 18 #[.pointer (some ⟨d, 0, none⟩), .string ⟨an.toArray⟩] w fun e w' => (∃ v, e = .returned (.tuple #[v, .int .i64 0]) ∧ Rd w' 1 v (badC c n).length (natL (badC c n))) ∧ w.grownBy w' none := by
  obtain ⟨o, cn, S, h1, h2, h3, h4⟩ := h
  have := bad_any h1 (nm := an) (by simp) h2.size
  rw [h2.bad] at this
  exact this
theorem PgC.dread (h : PgC w0 w d pf q n m c) {k : Nat} (hn : n ≤ 1000) (hk : k < n) : Calls Try.prog 21 #[.pointer (some ⟨d, 0, none⟩), .string ⟨an.toArray⟩, .int .i64 ((k : Int) * 256), .int .i64 256] w fun e w' =>
    (∃ v, e = .returned (.tuple #[v, .int .i64 0]) ∧ OwnB w' w.heap.size v (pgA c k)) ∧ w.grownBy w' none := by
  obtain ⟨o, cn, S, h1, h2, h3, h4⟩ := h
  have := read_any h1 an (by simp) ((k : Int) * 256) 256 (by omega) (by omega)
  rw [h2.read_ k] at this
  exact this
theorem PgC.read (h : PgC w0 w d pf q n m c) {k : Nat} (hn : n ≤ 1000) (hk : k < n) : Calls Try.prog 14 #[.pointer (some ⟨pf, 0, none⟩), .int .i64 k] w fun e w' =>
    (∃ v, e = .returned (.tuple #[v, .int .i64 (match pagO (pgA c k) (crcS an) k with | none => ([], 7) | some b => (b, 0) : List UInt8 × Nat).2]) ∧ OwnB w' w.heap.size v (match pagO (pgA c k) (crcS an) k with | none => ([], 7) | some b => (b, 0) : List UInt8 × Nat).1) ∧ w.grownBy w' none := by
  obtain ⟨o, cn, S, h1, h2, h3, h4⟩ := h
  have := pread_any h1 h3 (by simp) k (by omega)
  rw [h2.pread hk] at this
  exact this
theorem PgC.readOk (h : PgC w0 w d pf q n m c) {k : Nat} (hn : n ≤ 1000) (hk : k < n) {b : List UInt8} (hb : pagO (pgA c k) (crcS an) k = some b) : Calls Try.prog 14 #[.pointer (some ⟨pf, 0, none⟩), .int .i64 k] w fun e w' =>
    (∃ v, e = .returned (.tuple #[v, .int .i64 0]) ∧ OwnB w' w.heap.size v b) ∧ w.grownBy w' none := by
  have := h.read hn hk
  rw [hb] at this
  exact this
theorem PgC.readRot (h : PgC w0 w d pf q n m c) {k : Nat} (hn : n ≤ 1000) (hk : k < n) (hb : pagO (pgA c k) (crcS an) k = none) : Calls Try.prog 14 #[.pointer (some ⟨pf, 0, none⟩), .int .i64 k] w fun e w' =>
    (∃ v, e = .returned (.tuple #[v, .int .i64 7]) ∧ OwnB w' w.heap.size v []) ∧ w.grownBy w' none := by
  have := h.read hn hk
  rw [hb] at this
  exact this
theorem PgC.dwrite (h : PgC w0 w d pf q n m c) {k : Nat} (hn : n ≤ 1000) (hk : k < n) (hm : m ≤ 1000000) {p : List UInt8} (hp : p.length = 256) {bv : Value} {B1 : Nat} (hB : w.heap.size ≤ B1) {W : World} (hW : w.grownBy W none) (ho : OwnB W B1 bv p) :
    Calls Try.prog 22 #[.pointer (some ⟨d, 0, none⟩), .string ⟨an.toArray⟩, .int .i64 ((k : Int) * 256), bv] W fun e w' => e = .returned (.int .i64 0) ∧ PgC w0 w' d pf q n (m + 1) (overZ c (256 * k) p) := by
  obtain ⟨o, cn, S, h1, h2, h3, h4⟩ := h
  obtain ⟨e0, hK⟩ := h2.write hk hn hp
  have hfs : S.fs.length = 1 := by obtain ⟨la, e⟩ := h2.file; rw [e]; rfl
  refine (write_any (h1.ext hW) an (by simp) ((k : Int) * 256) (by omega) bv p ho.rd (fun j hj => ?_) (by omega) (by omega) (by have := h2.nl; omega)).mono ?_
  · have hj2 := Own.blk_lt ho (by omega) hj
    refine ⟨hj2.2, ?_⟩
    cases e : o j with
    | none => rfl
    | some t => exact absurd (h1.inb j (by rw [e]; simp)).2 (by omega)
  · rw [e0]
    rintro e w' ⟨rfl, o', c', h1', ch⟩
    exact ⟨rfl, o', c', _, h1', hK, (h3.ext hW).ch ch, ch.gr (gr_none h4 hW) fun i hi => (h1.inb i hi).1⟩
theorem PgC.flip (h : PgC w0 w d pf q n m c) {p : Nat} (hp : p < 256 * n) {u : UInt8} (hu : u ≠ 0) :
    Calls Try.prog 23 #[.pointer (some ⟨d, 0, none⟩), .string ⟨an.toArray⟩, .int .i64 p, .int .u8 u.toNat] w fun e w' => e = .returned (.int .i64 0) ∧ PgC w0 w' d pf q n m (flipL c p u) := by
  obtain ⟨o, cn, S, h1, h2, h3, h4⟩ := h
  obtain ⟨la, hf⟩ := h2.find
  refine (flip_any h1 h2.idle an (by simp) an_right hf p (by show p < c.length; rw [h2.len]; exact hp) u hu).mono ?_
  rintro e w' ⟨rfl, o', c', h1', ch⟩
  exact ⟨rfl, o', c', _, h1', h2.flip p u, h3.ch ch, ch.gr h4 fun i hi => (h1.inb i hi).1⟩
end
/-- .. one page alone. -/
theorem filter_one (n k : Nat) (p : Nat → Bool) (hk : k < n) (h1 : p k = true) (h2 : ∀ j, j < n → j ≠ k → p j = false) : (List.range n).filter p = [k] := by
  induction n with
  | zero => omega
  | succ n ih =>
    rw [List.range_succ, List.filter_append]
    by_cases e : k = n
    · subst e
      have : (List.range k).filter p = [] := by
        rw [List.filter_eq_nil_iff]
        intro j hj
        have hj' : j < k := by simpa using hj
        rw [h2 j (by omega) (by omega)]; simp
      rw [this]; simp [h1]
    · rw [ih (by omega) fun j hj hne => h2 j (by omega) hne]
      simp [h2 n (by omega) (by omega)]
theorem filter_no (n : Nat) (p : Nat → Bool) (h2 : ∀ j, j < n → p j = false) : (List.range n).filter p = [] := by
  rw [List.filter_eq_nil_iff]
  intro j hj
  have hj' : j < n := by simpa using hj
  rw [h2 j hj']; simp
end Go.Proofs.Ytapiocldoignoaa
