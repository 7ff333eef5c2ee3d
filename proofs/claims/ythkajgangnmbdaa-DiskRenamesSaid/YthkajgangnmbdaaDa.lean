/-
  A disk seen from an older world: Arm, Quota, Dead, and all operations in that form.
-/
import Derived.Test.YthkajgangnmbdaaSm
import Derived.Test.YthkajgangnmbdaaOn3
import Derived.Test.YthkajgangnmbdaaSort
namespace Go.Proofs.Ythkajgangnmbdaa
open Go.RowKit
set_option maxRecDepth 100000
set_option maxHeartbeats 400000

section
variable {w : World} {B d : Nat} {o : Own1} {S : Dk} {c : Con}
theorem arm_any (h : DI w B o d S c) (n : Int) (hn : -9223372036854775808 ≤ n ∧ n ≤ 9223372036854775807) :
    Calls Try.prog 10 #[.pointer (some ⟨d, 0, none⟩), .int .i64 n] w fun e w' => e = .returned (.int .i64 (S.arm n).2) ∧ DOut o w B d (S.arm n).1 w' := by
  have hc := h.self.cell
  have hf := h.self.frozen
  unfold selfC at hc
  have H := Lib.hid h
  clear h
  by_cases h0 : n < 0
  · have e : S.arm n = (S, 1) := if_pos h0
    rw [e]
    clear e
    go_enter Try.func10, Try.ntmps10
    go_wp2
    go_ret
    exact ⟨rfl, o, c, H.out, Ch.refl _ _⟩
  · have h1 : 0 ≤ n := by omega
    have hdec : decide (n < 0) = false := by simpa using h1
    cases hd : S.dead with
    | true =>
      have e : S.arm n = (S, 6) := by unfold Dk.arm; rw [if_neg h0, if_pos hd]
      rw [e]
      rw [hd] at hc
      clear e hd h0
      go_enter Try.func10, Try.ntmps10
      go_wp2
      go_ret
      exact ⟨rfl, o, c, H.out, Ch.refl _ _⟩
    | false =>
      have e : S.arm n = ({ S with armed := n.toNat }, 0) := by unfold Dk.arm; rw [if_neg h0, if_neg (by rw [hd]; simp)]
      rw [e]
      rw [hd] at hc
      obtain ⟨k, rfl⟩ := Int.eq_ofNat_of_zero_le h1
      have HB : Hid (DI (w.setCell ⟨d, 3, none⟩ (.int .i64 (k : Int))) B o d { S with armed := (k : Int).toNat } c) := by
        have := DI.numbers H.out (gr_setCell w ⟨d, 3, none⟩ (.int .i64 (k : Int))) S.quota k S.dead (by simpa [selfC] using H.out.self.set 3 (.int .i64 (k : Int))) H.out.lim.1 (by omega)
        rw [Int.toNat_natCast]
        exact this
      clear e hd h0
      go_enter Try.func10, Try.ntmps10
      go_wp2
      go_ret
      exact ⟨rfl, o, c, HB.out, Ch.of_gr (gr_setCell _ _ _) (fun k e => by cases e; rw [H.out.tD]; simp)⟩
end

/-- a disk, seen from an older world in which nothing was its own. -/
structure DA (w0 : World) (d : Nat) (o : Own1) (S : Dk) (w : World) : Prop where
  di : ∃ c, DI w w0.heap.size o d S c
  gr : w0.grownBy w none
def DP (w0 : World) (d : Nat) (o : Own1) (S : Dk) (w w' : World) : Prop := ∃ o', DA w0 d o' S w' ∧ Ch o w o' w'
section
variable {w0 w w1 : World} {d : Nat} {o : Own1} {S S' : Dk}
theorem DA.own0 (h : DA w0 d o S w) : ∀ i, o i ≠ none → w0.heap.size ≤ i := fun i hi => by obtain ⟨c, h⟩ := h.di; exact (h.inb i hi).1
theorem DA.own1 (h : DA w0 d o S w) : ∀ i, o i ≠ none → i < w.heap.size := fun i hi => by obtain ⟨c, h⟩ := h.di; exact (h.inb i hi).2
theorem DA.fresh (h : DA w0 d o S w) {i : Nat} (hi : w.heap.size ≤ i) : o i = none := by
  cases e : o i with
  | none => rfl
  | some t => exact absurd (h.own1 i (by rw [e]; simp)) (by omega)
theorem DA.out (h : DA w0 d o S w) (hd : DOut o w w0.heap.size d S' w1) : DP w0 d o S' w w1 := by
  obtain ⟨o', c', h1, ch⟩ := hd
  exact ⟨o', ⟨⟨c', h1⟩, ch.gr h.gr h.own0⟩, ch⟩
theorem DA.ext (h : DA w0 d o S w) (g : w.grownBy w1 none) : DA w0 d o S w1 := by
  obtain ⟨⟨c, h1⟩, h2⟩ := h
  exact ⟨⟨c, h1.ext g⟩, gr_none h2 g⟩
theorem DA.new (q : Nat) (w : World) (hq : q ≤ 1048576) : Calls Try.prog 5 #[.int .i64 q] w fun e w' => ∃ d o, e = .returned (.tuple #[.pointer (some ⟨d, 0, none⟩), .int .i64 0]) ∧ DA w d o (newD q) w' :=
  (new_ok q w hq).mono fun _ _ ⟨d, o, c, e, h1, h2⟩ => ⟨d, o, e, ⟨c, h1⟩, h2⟩
theorem DA.create (h : DA w0 d o S w) (n : List UInt8) (hn : n.length ≤ 1000000000) (hfl : S.fs.length ≤ 1000000) :
    Calls Try.prog 6 #[.pointer (some ⟨d, 0, none⟩), .string ⟨n.toArray⟩] w fun e w' => e = .returned (.int .i64 (S.create n).2) ∧ DP w0 d o (S.create n).1 w w' := by
  obtain ⟨c, h1⟩ := h.di
  exact (create_any h1 n hn hfl).mono fun _ _ ⟨e, k⟩ => ⟨e, h.out k⟩
theorem DA.sync (h : DA w0 d o S w) (n : List UInt8) (hn : n.length ≤ 1000000000) :
    Calls Try.prog 9 #[.pointer (some ⟨d, 0, none⟩), .string ⟨n.toArray⟩] w fun e w' => e = .returned (.int .i64 (S.sync n).2) ∧ DP w0 d o (S.sync n).1 w w' := by
  obtain ⟨c, h1⟩ := h.di
  exact (sync_any h1 n hn).mono fun _ _ ⟨e, k⟩ => ⟨e, h.out k⟩
theorem DA.arm (h : DA w0 d o S w) (k : Int) (hk : -9223372036854775808 ≤ k ∧ k ≤ 9223372036854775807) :
    Calls Try.prog 10 #[.pointer (some ⟨d, 0, none⟩), .int .i64 k] w fun e w' => e = .returned (.int .i64 (S.arm k).2) ∧ DP w0 d o (S.arm k).1 w w' := by
  obtain ⟨c, h1⟩ := h.di
  exact (arm_any h1 k hk).mono fun _ _ ⟨e, k⟩ => ⟨e, h.out k⟩
theorem DA.used (h : DA w0 d o S w) (hfl : S.fs.length ≤ 1000000) : Calls Try.prog 17 #[.pointer (some ⟨d, 0, none⟩)] w fun e w' => e = .returned (.int .i64 S.used) ∧ w.grownBy w' none := by
  obtain ⟨c, h1⟩ := h.di
  exact used_any h1 hfl
theorem DA.read (h : DA w0 d o S w) (n : List UInt8) (hn : n.length ≤ 1000000000) (off k : Int) (ho : -9223372036854775808 ≤ off ∧ off ≤ 9223372036854775807) (hk : -9223372036854775808 ≤ k ∧ k ≤ 9223372036854775807) :
    Calls Try.prog 16 #[.pointer (some ⟨d, 0, none⟩), .string ⟨n.toArray⟩, .int .i64 off, .int .i64 k] w fun e w' =>
      (∃ v, e = .returned (.tuple #[v, .int .i64 (S.read n off k).2]) ∧ OwnB w' w.heap.size v (S.read n off k).1) ∧ w.grownBy w' none := by
  obtain ⟨c, h1⟩ := h.di
  exact read_any h1 n hn off k ho hk
/-- b: bytes in new memory. -/
theorem DA.write (h : DA w0 d o S w1) (g : w1.grownBy w none) (n : List UInt8) (hn : n.length ≤ 1000000000) (off : Int) (hoff : -9223372036854775808 ≤ off ∧ off ≤ 9223372036854775807) {bv : Value} {b : List UInt8} (hb : OwnB w w1.heap.size bv b) (hbl : b.length ≤ 1000000000000)
    (hfl : S.fs.length ≤ 1000000) (hnl : S.nl ≤ 1000000000) :
    Calls Try.prog 7 #[.pointer (some ⟨d, 0, none⟩), .string ⟨n.toArray⟩, .int .i64 off, bv] w fun e w' => e = .returned (.int .i64 (S.write n off b).2) ∧ DP w0 d o (S.write n off b).1 w w' := by
  have h2 := h.ext g
  obtain ⟨c, h1⟩ := h2.di
  exact (write_any h1 n hn off hoff bv b hb.rd (fun k hk => by
    have := Own.blk_lt hb (by omega) hk
    exact ⟨this.2, h.fresh this.1⟩) hbl hfl (by omega)).mono fun _ _ ⟨e, k⟩ => ⟨e, h2.out k⟩
theorem DA.loose (h : DA w0 d o S w) (hli : LooseIn S) (hnl : S.nl ≤ 1000000000) : Calls Try.prog 25 #[.pointer (some ⟨d, 0, none⟩)] w fun e w' => ∃ v l, e = .returned v ∧ OwnP w' w.heap.size v l ∧ LsIs S l ∧ l.length ≤ S.nl ∧ w.grownBy w' none := by
  obtain ⟨c, h1⟩ := h.di
  exact (loose_any sorts_any h1 (looseOk h1 hli) hnl).mono fun _ _ ⟨v, l, e, k1, k2, k3, k4, k5, k6⟩ => ⟨v, l, e, k1, ⟨k2, k3, k4⟩, k5, k6⟩
theorem on_alive {S : Dk} {w : World} {B d : Nat} {o : Own1} {c : Con} (h : DI w B o d S c) (hd : S.dead = false) (kv : Value) : Calls Try.prog 12 #[.pointer (some ⟨d, 0, none⟩), kv] w fun e w' => e = .returned (.int .i64 14) ∧ w = w' := by
  have hc := h.self.cell
  unfold selfC at hc
  rw [hd] at hc
  clear h hd
  go_enter Try.func12, Try.ntmps12
  go_wp2
  go_ret
  exact ⟨rfl, rfl⟩
theorem DA.on (h : DA w0 d o S w) (hli : LooseIn S) (hnl : S.nl ≤ 1000000000) (hfl : S.fs.length ≤ 1000000) (hd : S.dead = true) {kv : Value} {keep : List Int} (hkv : Rd w 1 kv keep.length (intL keep)) (hkl : keep.length ≤ 1000000000) :
    Calls Try.prog 12 #[.pointer (some ⟨d, 0, none⟩), kv] w fun e w' => e = .returned (.int .i64 0) ∧ ∃ ls, LsIs S ls ∧ DP w0 d o (S.lit (onT S keep ls ls.length)) w w' := by
  obtain ⟨c, h1⟩ := h.di
  exact (on_any sorts_any h1 hli hnl hfl hd kv keep hkv hkl).mono fun _ _ ⟨e, ls, k1, k2⟩ => ⟨e, ls, k1, h.out k2⟩
end
end Go.Proofs.Ythkajgangnmbdaa
