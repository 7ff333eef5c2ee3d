/-
  A disk seen from an older world: Arm, Quota, Dead, and all operations in that form.
-/
import Derived.Test.YtipankjajdpiiaaGreatOne
import Derived.Test.YtipankjajdpiiaaGreatOn3
import Derived.Test.YtipankjajdpiiaaGreatSort
import Derived.Test.YtipankjajdpiiaaGreatPfP
namespace Go.Proofs.YtipankjajdpiiaaGreat
open Go.RowKit
set_option maxRecDepth 100000
set_option maxHeartbeats 400000

section
variable {w : World} {B d : Nat} {o : Own1} {S : Dk} {c : Con}
theorem arm_any (h : DI w B o d S c) (n : Int) (hn : -9223372036854775808 ≤ n ∧ n ≤ 9223372036854775807) :
    Calls Tryz.prog 25 #[.pointer (some ⟨d, 0, none⟩), .int .i64 n] w fun e w' => e = .returned (.int .i64 (S.arm n).2) ∧ DOut o w B d (S.arm n).1 w' := by
  have hc := h.self.cell
  have hf := h.self.frozen
  unfold selfC at hc
  have H := Lib.hid h
  clear h
  by_cases h0 : n < 0
  · have e : S.arm n = (S, 1) := if_pos h0
    rw [e]
    clear e
    go_enter Tryz.func25, Tryz.ntmps25
    go_wp2
    go_ret
    exact ⟨rfl, o, c, H.out, Ch.refl _ _⟩
  · have h1 : 0 ≤ n := by omega
    have hdec : decide (n < 0) = false := by simpa using h1
    cases hd : S.dead with
    | true =>
      have e : S.arm n = (S, 6) := by unfold Dk.arm; rw [if_neg h0, if_pos hd]
      rw [e]
      rw [hd] at hc
      clear e hd h0
      go_enter Tryz.func25, Tryz.ntmps25
      go_wp2
      go_ret
      exact ⟨rfl, o, c, H.out, Ch.refl _ _⟩
    | false =>
      have e : S.arm n = ({ S with armed := n.toNat }, 0) := by unfold Dk.arm; rw [if_neg h0, if_neg (by rw [hd]; simp)]
      rw [e]
      rw [hd] at hc
      obtain ⟨k, rfl⟩ := Int.eq_ofNat_of_zero_le h1
      have HB : Hid (DI (w.setCell ⟨d, 3, none⟩ (.int .i64 (k : Int))) B o d { S with armed := (k : Int).toNat } c) := by
        have := DI.numbers H.out (gr_setCell w ⟨d, 3, none⟩ (.int .i64 (k : Int))) S.quota k S.dead (by simpa [selfC] using H.out.self.set 3 (.int .i64 (k : Int))) H.out.lim.1 (by omega)
        rw [Int.toNat_natCast]
        exact this
      clear e hd h0
      go_enter Tryz.func25, Tryz.ntmps25
      go_wp2
      go_ret
      exact ⟨rfl, o, c, HB.out, Ch.of_gr (gr_setCell _ _ _) (fun k e => by cases e; rw [H.out.tD]; simp)⟩
theorem quota_any (h : DI w B o d S c) (n : Int) (hn : -9223372036854775808 ≤ n ∧ n ≤ 9223372036854775807) :
    Calls Tryz.prog 30 #[.pointer (some ⟨d, 0, none⟩), .int .i64 n] w fun e w' => e = .returned (.int .i64 (S.setQuota n).2) ∧ DOut o w B d (S.setQuota n).1 w' := by
  have hc := h.self.cell
  have hf := h.self.frozen
  unfold selfC at hc
  have H := Lib.hid h
  clear h
  by_cases h0 : n < 0
  · have e : S.setQuota n = (S, 1) := if_pos (.inl h0)
    rw [e]
    clear e
    go_enter Tryz.func30, Tryz.ntmps30
    go_wp2
    go_ret
    exact ⟨rfl, o, c, H.out, Ch.refl _ _⟩
  · have h1 : 0 ≤ n := by omega
    have hdec : decide (n < 0) = false := by simpa using h1
    by_cases h2 : 1048576 < n
    · have e : S.setQuota n = (S, 1) := if_pos (.inr h2)
      rw [e]
      clear e h0
      go_enter Tryz.func30, Tryz.ntmps30
      go_wp2
      go_ret
      exact ⟨rfl, o, c, H.out, Ch.refl _ _⟩
    · have e : S.setQuota n = ({ S with quota := n.toNat }, 0) := if_neg (by omega)
      rw [e]
      have h3 : n ≤ 1048576 := by omega
      have hdec2 : decide (1048576 < n) = false := by simpa using h3
      obtain ⟨k, rfl⟩ := Int.eq_ofNat_of_zero_le h1
      have HB : Hid (DI (w.setCell ⟨d, 2, none⟩ (.int .i64 (k : Int))) B o d { S with quota := (k : Int).toNat } c) := by
        have := DI.numbers H.out (gr_setCell w ⟨d, 2, none⟩ (.int .i64 (k : Int))) k S.armed S.dead (by simpa [selfC] using H.out.self.set 2 (.int .i64 (k : Int))) (by omega) H.out.lim.2
        rw [Int.toNat_natCast]
        exact this
      clear e h0 h2
      go_enter Tryz.func30, Tryz.ntmps30
      go_wp2
      go_ret
      exact ⟨rfl, o, c, HB.out, Ch.of_gr (gr_setCell _ _ _) (fun k e => by cases e; rw [H.out.tD]; simp)⟩
end

/-- a disk, seen from an older world in which nothing was its own. -/
structure DA (w0 : World) (d : Nat) (o : Own1) (S : Dk) (w : World) : Prop where
  di : ∃ c, DI w w0.heap.size o d S c
  gr : w0.grownBy w none
def DP (w0 : World) (d : Nat) (o : Own1) (S : Dk) (w w' : World) : Prop := ∃ o', DA w0 d o' S w' ∧ Ch o w o' w'
section
variable {w0 w w1 : World} {d : Nat} {o : Own1} {S S' : Dk}
theorem DA.own0 (h : DA w0 d o S w) : ∀ i, o i ≠ none → w0.heap.size ≤ i := fun i hi => by obtain ⟨c, h⟩ := h.di; exact (h.inb i hi).1
theorem DA.own1 (h : DA w0 d o S w) : ∀ i, o i ≠ none → i < w.heap.size := fun i hi => by obtain ⟨c, h⟩ := h.di; exact (h.inb i hi).2
theorem DA.fresh (h : DA w0 d o S w) {i : Nat} (hi : w.heap.size ≤ i) : o i = none := by
  cases e : o i with
  | none => rfl
  | some t => exact absurd (h.own1 i (by rw [e]; simp)) (by omega)
theorem DA.out (h : DA w0 d o S w) (hd : DOut o w w0.heap.size d S' w1) : DP w0 d o S' w w1 := by
  obtain ⟨o', c', h1, ch⟩ := hd
  exact ⟨o', ⟨⟨c', h1⟩, ch.gr h.gr h.own0⟩, ch⟩
theorem DA.ext (h : DA w0 d o S w) (g : w.grownBy w1 none) : DA w0 d o S w1 := by
  obtain ⟨⟨c, h1⟩, h2⟩ := h
  exact ⟨⟨c, h1.ext g⟩, gr_none h2 g⟩
theorem DA.new (q : Nat) (w : World) (hq : q ≤ 1048576) : Calls Tryz.prog 7 #[.int .i64 q] w fun e w' => ∃ d o, e = .returned (.tuple #[.pointer (some ⟨d, 0, none⟩), .int .i64 0]) ∧ DA w d o (newD q) w' :=
  (new_ok q w hq).mono fun _ _ ⟨d, o, c, e, h1, h2⟩ => ⟨d, o, e, ⟨c, h1⟩, h2⟩
theorem DA.create (h : DA w0 d o S w) (n : List UInt8) (hn : n.length ≤ 1000000000) (hfl : S.fs.length ≤ 1000000) :
    Calls Tryz.prog 65 #[.pointer (some ⟨d, 0, none⟩), .string ⟨n.toArray⟩] w fun e w' => e = .returned (.int .i64 (S.create n).2) ∧ DP w0 d o (S.create n).1 w w' := by
  obtain ⟨c, h1⟩ := h.di
  exact (create_any h1 n hn hfl).mono fun _ _ ⟨e, k⟩ => ⟨e, h.out k⟩
theorem DA.sync (h : DA w0 d o S w) (n : List UInt8) (hn : n.length ≤ 1000000000) :
    Calls Tryz.prog 69 #[.pointer (some ⟨d, 0, none⟩), .string ⟨n.toArray⟩] w fun e w' => e = .returned (.int .i64 (S.sync n).2) ∧ DP w0 d o (S.sync n).1 w w' := by
  obtain ⟨c, h1⟩ := h.di
  exact (sync_any h1 n hn).mono fun _ _ ⟨e, k⟩ => ⟨e, h.out k⟩
theorem DA.cut (h : DA w0 d o S w) (n : List UInt8) (hn : n.length ≤ 1000000000) (k : Int) (hk : -9223372036854775808 ≤ k ∧ k ≤ 9223372036854775807) :
    Calls Tryz.prog 68 #[.pointer (some ⟨d, 0, none⟩), .string ⟨n.toArray⟩, .int .i64 k] w fun e w' => e = .returned (.int .i64 (S.cut n k).2) ∧ DP w0 d o (S.cut n k).1 w w' := by
  obtain ⟨c, h1⟩ := h.di
  exact (cut_any h1 n hn k hk).mono fun _ _ ⟨e, k⟩ => ⟨e, h.out k⟩
theorem DA.arm (h : DA w0 d o S w) (k : Int) (hk : -9223372036854775808 ≤ k ∧ k ≤ 9223372036854775807) :
    Calls Tryz.prog 25 #[.pointer (some ⟨d, 0, none⟩), .int .i64 k] w fun e w' => e = .returned (.int .i64 (S.arm k).2) ∧ DP w0 d o (S.arm k).1 w w' := by
  obtain ⟨c, h1⟩ := h.di
  exact (arm_any h1 k hk).mono fun _ _ ⟨e, k⟩ => ⟨e, h.out k⟩
theorem DA.quota (h : DA w0 d o S w) (k : Int) (hk : -9223372036854775808 ≤ k ∧ k ≤ 9223372036854775807) :
    Calls Tryz.prog 30 #[.pointer (some ⟨d, 0, none⟩), .int .i64 k] w fun e w' => e = .returned (.int .i64 (S.setQuota k).2) ∧ DP w0 d o (S.setQuota k).1 w w' := by
  obtain ⟨c, h1⟩ := h.di
  exact (quota_any h1 k hk).mono fun _ _ ⟨e, k⟩ => ⟨e, h.out k⟩
theorem DA.used (h : DA w0 d o S w) (hfl : S.fs.length ≤ 1000000) : Calls Tryz.prog 76 #[.pointer (some ⟨d, 0, none⟩)] w fun e w' => e = .returned (.int .i64 S.used) ∧ w.grownBy w' none := by
  obtain ⟨c, h1⟩ := h.di
  exact used_any h1 hfl
theorem DA.size (h : DA w0 d o S w) (n : List UInt8) (hn : n.length ≤ 1000000000) :
    Calls Tryz.prog 64 #[.pointer (some ⟨d, 0, none⟩), .string ⟨n.toArray⟩] w fun e w' => e = .returned (.tuple #[.int .i64 (S.size n).1, .int .i64 (S.size n).2]) ∧ w.grownBy w' none := by
  obtain ⟨c, h1⟩ := h.di
  exact size_any h1 n hn
theorem DA.read (h : DA w0 d o S w) (n : List UInt8) (hn : n.length ≤ 1000000000) (off k : Int) (ho : -9223372036854775808 ≤ off ∧ off ≤ 9223372036854775807) (hk : -9223372036854775808 ≤ k ∧ k ≤ 9223372036854775807) :
    Calls Tryz.prog 66 #[.pointer (some ⟨d, 0, none⟩), .string ⟨n.toArray⟩, .int .i64 off, .int .i64 k] w fun e w' =>
      (∃ v, e = .returned (.tuple #[v, .int .i64 (S.read n off k).2]) ∧ OwnB w' w.heap.size v (S.read n off k).1) ∧ w.grownBy w' none := by
  obtain ⟨c, h1⟩ := h.di
  exact read_any h1 n hn off k ho hk
/-- b: bytes in new memory. -/
theorem DA.write (h : DA w0 d o S w1) (g : w1.grownBy w none) (n : List UInt8) (hn : n.length ≤ 1000000000) (off : Int) (hoff : -9223372036854775808 ≤ off ∧ off ≤ 9223372036854775807) {bv : Value} {b : List UInt8} (hb : OwnB w w1.heap.size bv b) (hbl : b.length ≤ 1000000000000)
    (hfl : S.fs.length ≤ 1000000) (hnl : S.nl ≤ 1000000000) :
    Calls Tryz.prog 27 #[.pointer (some ⟨d, 0, none⟩), .string ⟨n.toArray⟩, .int .i64 off, bv] w fun e w' => e = .returned (.int .i64 (S.write n off b).2) ∧ DP w0 d o (S.write n off b).1 w w' := by
  have h2 := h.ext g
  obtain ⟨c, h1⟩ := h2.di
  exact (write_any h1 n hn off hoff bv b hb.rd (fun k hk => by
    have := Own.blk_lt hb (by omega) hk
    exact ⟨this.2, h.fresh this.1⟩) hbl hfl (by omega)).mono fun _ _ ⟨e, k⟩ => ⟨e, h2.out k⟩
theorem DA.loose (h : DA w0 d o S w) (hli : LooseIn S) (hnl : S.nl ≤ 1000000000) : Calls Tryz.prog 71 #[.pointer (some ⟨d, 0, none⟩)] w fun e w' => ∃ v l, e = .returned v ∧ OwnP w' w.heap.size v l ∧ LsIs S l ∧ l.length ≤ S.nl ∧ w.grownBy w' none := by
  obtain ⟨c, h1⟩ := h.di
  exact (loose_any sorts_any h1 (looseOk h1 hli) hnl).mono fun _ _ ⟨v, l, e, k1, k2, k3, k4, k5, k6⟩ => ⟨v, l, e, k1, ⟨k2, k3, k4⟩, k5, k6⟩
theorem on_alive {S : Dk} {w : World} {B d : Nat} {o : Own1} {c : Con} (h : DI w B o d S c) (hd : S.dead = false) (kv : Value) : Calls Tryz.prog 26 #[.pointer (some ⟨d, 0, none⟩), kv] w fun e w' => e = .returned (.int .i64 14) ∧ w = w' := by
  have hc := h.self.cell
  unfold selfC at hc
  rw [hd] at hc
  clear h hd
  go_enter Tryz.func26, Tryz.ntmps26
  go_wp2
  go_ret
  exact ⟨rfl, rfl⟩
theorem DA.on (h : DA w0 d o S w) (hli : LooseIn S) (hnl : S.nl ≤ 1000000000) (hfl : S.fs.length ≤ 1000000) (hd : S.dead = true) {kv : Value} {keep : List Int} (hkv : Rd w 1 kv keep.length (intL keep)) (hkl : keep.length ≤ 1000000000) :
    Calls Tryz.prog 26 #[.pointer (some ⟨d, 0, none⟩), kv] w fun e w' => e = .returned (.int .i64 0) ∧ ∃ ls, LsIs S ls ∧ DP w0 d o (S.lit (onT S keep ls ls.length)) w w' := by
  obtain ⟨c, h1⟩ := h.di
  exact (on_any sorts_any h1 hli hnl hfl hd kv keep hkv hkl).mono fun _ _ ⟨e, ls, k1, k2⟩ => ⟨e, ls, k1, h.out k2⟩
end
end Go.Proofs.YtipankjajdpiiaaGreat

/- Two owners side by side. -/
namespace Go.Proofs.YtipankjajdpiiaaGreat
open Go.RowKit Go.Maps
set_option maxRecDepth 100000
set_option maxHeartbeats 400000

/-- nothing is owned twice. -/
def Dsj (O1 O2 : Own1) : Prop := ∀ i, O1 i = none ∨ O2 i = none
section
variable {w0 w w' w1 : World} {d p m B : Nat} {o O O1 O1' O2 : Own1} {S : Dk}
theorem Dsj.symm (h : Dsj O1 O2) : Dsj O2 O1 := fun i => (h i).symm
theorem Dsj.off (h : Dsj O1 O2) (i : Nat) (hi : O1 i ≠ none) : O2 i = none := (h i).resolve_left hi
theorem Dsj.mk (h : ∀ i, O1 i ≠ none → O2 i = none) : Dsj O1 O2 := fun i => by
  cases e : O1 i with
  | none => exact .inl rfl
  | some t => exact .inr (h i (by rw [e]; simp))
theorem DI.lowB {c : Con} (h : DI w B o d S c) {B' : Nat} (hB : B' ≤ B) : DI w B' o d S c :=
  { h with
    file := fun f hf => ⟨(h.file f hf).box, (h.file f hf).now.mono hB, (h.file f hf).lasts.mono hB, (h.file f hf).small⟩
    inb := fun i hi => ⟨Nat.le_trans hB (h.inb i hi).1, (h.inb i hi).2⟩ }
theorem DA.low (h : DA w1 d o S w) (g : w0.grownBy w1 none) : DA w0 d o S w := by
  obtain ⟨⟨c, h1⟩, h2⟩ := h
  exact ⟨⟨c, h1.lowB g.size⟩, gr_none g h2⟩
theorem DA.beside (h : DA w0 d o S w) (hc : Ch O1 w O1' w') (hd : Dsj o O1) (hg : w0.grownBy w' none) : DA w0 d o S w' ∧ Dsj o O1' := by
  obtain ⟨⟨c, h1⟩, h2⟩ := h
  exact ⟨⟨⟨c, h1.keep hc.size fun i hi => hc.block i (h1.inb i hi).2 (hd.off i hi)⟩, hg⟩, Dsj.mk fun i hi => hc.free i (h1.inb i hi).2 (hd.off i hi)⟩
end
end Go.Proofs.YtipankjajdpiiaaGreat

/- What the disk's laws share: twin, same, works. -/
namespace Go.Proofs.YtipankjajdpiiaaGreat
open Go.RowKit
set_option maxRecDepth 100000
set_option maxHeartbeats 400000

theorem LsIs.in_ {S : Dk} {ls : List Sec} (h : LsIs S ls) (hli : LooseIn S) : ∀ x ∈ ls, x.page.toNat * 64 < (S.nowOf x.name).length := fun x hx => by
  obtain ⟨s, p⟩ := x
  obtain ⟨f, h1, h2, h3⟩ := hli s _ ((h.2.1 s _ (h.2.2 _ hx)).2 ⟨p, hx, rfl⟩)
  rw [nowOf_some h1]
  omega
/-- nothing but draws. -/
def DrewS (w w' : World) : Prop := ∃ q, w' = w.drewN q
theorem RdB.at_ {w : World} {A : Option Addr} {c : Nat} {l : List UInt8} (h : RdB w (.slice A l.length c) l) : ∃ g off, (0 < l.length → A = some ⟨g, off, none⟩) ∧ l.length ≤ c ∧ c ≤ maxLen ∧ ∀ k (hk : k < l.length), w.cell? ⟨g, off + k, none⟩ = some (.int .u8 l[k].toNat) := by
  obtain ⟨hl, A', c', g, off, e, hn, hc, hA0, hA, hx⟩ := h
  cases e
  refine ⟨g, off, fun h0 => hA (by omega), hn, hc, fun k hk => ?_⟩
  rw [hx k (by omega), List.getElem?_map, List.getElem?_eq_getElem hk]
  rfl
set_option maxHeartbeats 1000000 in
theorem same6_q (v v' : Value) (l l' : List UInt8) (w : World) (h : RdB w v l) (h' : RdB w v' l') (hn : l.length ≤ 1000000000) (hn' : l'.length ≤ 1000000000) :
    Calls Tryz.prog 40 #[v, v'] w fun e w' => e = .returned (.bool (l == l')) ∧ ∃ q, w' = w.drewN q := by
  obtain ⟨A, c, rfl⟩ := h.form
  obtain ⟨A', c', rfl⟩ := h'.form
  obtain ⟨g, off, hA, hc1, hm1, hcells⟩ := h.at_
  obtain ⟨g', off', hA', hc2, hm2, hcells'⟩ := h'.at_
  have HA := Lib.hid hA
  have HC := Lib.hid hcells
  have HA' := Lib.hid hA'
  have HC' := Lib.hid hcells'
  clear hA hcells hA' hcells' h h' hm1 hm2
  by_cases hl : l.length = l'.length
  · have hb : ((l.length : Int) != (l'.length : Int)) = false := by rw [bne_eq_false_iff_eq]; omega
    have hl1 : l.length ≤ l'.length := by omega
    have hl2 : l'.length ≤ l.length := by omega
    clear hl
    go_enter Tryz.func40, Tryz.ntmps40
    go_wp2
    go_loopw [5] (fun i wr => ∃ k : Nat, k ≤ l.length ∧ i = .int .i64 k ∧ l.take k = l'.take k ∧ DrewS w wr) (fun i _ => l.length - (intOf i).toNat)
    case atStart => exact ⟨0, by omega, rfl, by simp, 0, rfl⟩
    case round =>
      obtain ⟨k, hk, rfl, hall, hg⟩ := hrel
      obtain ⟨q0, hq0⟩ := hg
      have HQ0 := Lib.hid hq0
      have hg : w.grownBy wr none := by rw [hq0]; exact gr_drewN w q0 none
      clear hq0
      have Hall := Lib.hid hall
      clear hall
      by_cases hlt : k < l.length
      · have hlt' : k < l'.length := by omega
        have := HA.out (by omega)
        subst this
        have := HA'.out (by omega)
        subst this
        have c0 := hg.cell (HC.out k hlt) (by simp)
        have d0 := hg.cell (HC'.out k hlt') (by simp)
        have hx := l[k].toNat_lt
        have hy := l'[k].toNat_lt
        have Hiff : Hid (l[k] = l'[k] ↔ l[k].toNat = l'[k].toNat) := ⟨fun e => by rw [e], fun e => UInt8.toNat_inj.1 e⟩
        obtain ⟨x, hxe⟩ : ∃ x, x = l[k].toNat := ⟨_, rfl⟩
        obtain ⟨y, hye⟩ : ∃ y, y = l'[k].toNat := ⟨_, rfl⟩
        rw [← hxe] at c0 hx
        rw [← hye] at d0 hy
        have HX := Lib.hid hxe
        have HY := Lib.hid hye
        clear hxe hye
        by_cases hxy : x = y
        · subst hxy
          have hne : ((x : Int) != (x : Int)) = false := by simp
          have HXY : Hid (l[k] = l'[k]) := Hiff.out.2 (by rw [← HX.out, ← HY.out])
          go_wp2_with fail
          go_quiet (fail)
          go_wp2
          go_roundw
          case rel => exact ⟨k + 1, by omega, by go_num, by
            rw [List.take_succ_eq_append_getElem hlt, List.take_succ_eq_append_getElem hlt', Hall.out, HXY.out], q0 + nq, by rw [HQ0.out, World.drewN_drewN]⟩
          case measure => simp [intOf]; omega
        · have hne : ((x : Int) != (y : Int)) = true := by rw [bne_iff_ne]; omega
          have Hd : Hid ((l == l') = false) := by
            show _ = _
            rw [beq_eq_false_iff_ne]
            intro e
            subst e
            exact hxy (by rw [HX.out, HY.out])
          go_wp2_with fail
          go_quiet (fail)
          go_wp2
          go_ret
          exact ⟨by rw [Hd.out]; rfl, q0 + nq, by rw [HQ0.out, World.drewN_drewN]⟩
      · obtain rfl : k = l.length := by omega
        have He : Hid ((l == l') = true) := by
          have := Hall.out
          rw [List.take_length, List.take_of_length_le hl2] at this
          show _ = _
          rw [beq_iff_eq]; exact this
        go_wp2
        go_ret
        exact ⟨by rw [He.out]; rfl, q0, HQ0.out⟩
  · have hb : ((l.length : Int) != (l'.length : Int)) = true := by rw [bne_iff_ne]; omega
    have Hd : Hid ((l == l') = false) := by
      show _ = _
      rw [beq_eq_false_iff_ne]
      exact fun e => hl (by rw [e])
    clear hl
    go_enter Tryz.func40, Tryz.ntmps40
    go_wp2
    go_ret
    exact ⟨by rw [Hd.out]; rfl, 0, rfl⟩

theorem same6_any (v v' : Value) (l l' : List UInt8) (w : World) (h : RdB w v l) (h' : RdB w v' l') (hn : l.length ≤ 1000000000) (hn' : l'.length ≤ 1000000000) :
    Calls Tryz.prog 40 #[v, v'] w fun e w' => e = .returned (.bool (l == l')) ∧ w.grownBy w' none :=
  (same6_q v v' l l' w h h' hn hn').mono fun _ _ ⟨e, q, h⟩ => ⟨e, by rw [h]; exact gr_drewN _ _ _⟩

/-- the anchor. -/
def wkD : Dk := ((((newD 4).create an).1.write an 0 [7, 8]).1.sync an).1
theorem wk1 : ((newD 4).create an).2 = 0 := by decide
theorem wk2 : (((newD 4).create an).1.write an 0 [7, 8]).2 = 0 := by decide
theorem wk3 : ((((newD 4).create an).1.write an 0 [7, 8]).1.sync an).2 = 0 := by decide
theorem wk4 : wkD.read an 1 9 = ([8], 0) := by decide
theorem wk5 : wkD.used = 1 := by decide
end Go.Proofs.YtipankjajdpiiaaGreat

/- Lists of whole numbers: append, has. -/
namespace Go.Proofs.YtipankjajdpiiaaGreat
open Go.RowKit
set_option maxRecDepth 100000
set_option maxHeartbeats 400000

theorem Tryz.infoI : (Tryz.prog.info? 3).map (fun i => (i.zero, i.size, i.bytes)) = some (some (.int .i64 0), 1, 8) := by kernel_rfl
def OwnI (w : World) (B : Nat) (v : Value) (l : List Int) : Prop := Own w B 1 v l.length (intL l)
def RdI (w : World) (v : Value) (l : List Int) : Prop := Rd w 1 v l.length (intL l)
theorem int_one (l : List Int) : ∀ u ∈ intL l, u.oneCell' = true := by
  intro u hu
  obtain ⟨b, _, rfl⟩ := List.mem_map.1 hu
  rfl
theorem own_appI {w : World} {B : Nat} {v : Value} {l m : List Int} (h : Own w B 1 v (l.length + m.length) (intL l ++ intL m)) : OwnI w B v (l ++ m) := by
  unfold OwnI intL
  rw [List.length_append, List.map_append]
  exact h
theorem wp_appI {ops : Array Oper} {rest : List Oper} {o : Oper} {a : Act} {Q : Exit → Act → World → Prop} {w : World} (hgd : o.guard = none) (s0 x0 : Operand)
    (ho : o.op = .call { callee := .builtin .append, args := #[s0, x0], argTypes := #[39, 39] }) {B : Nat} {v x : Value} {l m : List Int} (hs : a.eval s0 = v) (hown : OwnI w B v l)
    (hx : a.eval x0 = x) (hr : RdI w x m) (hn : l.length + m.length ≤ 1000000000) (hB : B ≤ w.heap.size)
    (h : ∀ v' w', OwnI w' B v' (l ++ m) → w.grownBy w' v.ownBlock → (v'.ownBlock = v.ownBlock ∨ ∃ k, v'.ownBlock = some k ∧ w.heap.size ≤ k) → wpList Tryz.prog ops Q rest (a.put o.dst v') w') :
    wpList Tryz.prog ops Q (o :: rest) a w :=
  wp_app w hgd s0 x0 _ ho B 3 _ 1 8 Tryz.underlying39 Tryz.infoI rfl (by omega) v _ _ hs hown x _ _ hx hr (int_one m) (by unfold maxLen; omega) (by omega) hB
    fun v' w' h1 h2 h3 => h v' w' (own_appI h1) h2 h3
theorem own_emptyI (w : World) (B : Nat) (hB : B ≤ w.heap.size) : OwnI (w.alloc (.cells #[] 3)) B (.slice (some ⟨w.heap.size, 0, none⟩) 0 0) [] :=
  own_lit w B 1 0 0 #[] _ (0, 0) (.inl (by simp)) rfl (Nat.le_refl _) (Nat.zero_le _) hB
theorem RdI.form {w : World} {v : Value} {l : List Int} (h : RdI w v l) : ∃ A c, v = .slice A l.length c := by
  obtain ⟨_, A, c, _, _, e, _⟩ := h; exact ⟨A, c, e⟩
theorem RdI.ext {w w' : World} {v : Value} {l : List Int} (h : RdI w v l) (hg : w.grownBy w' none) : RdI w' v l := Rd.ext h hg
/-- an operation whose guard lets it run. -/
theorem wpList_on {P : Program} {ops : Array Oper} {rest : List Oper} {o : Oper} {a : Act} {w : World} {Q : Exit → Act → World → Prop} (hw : Region.wanted o (yielded ops a.tmps) = true)
    (h : ∀ K : Act → World → Prop, (∀ a w, wpList P ops Q rest a w → K a w) → o.wp P a w K Q) : wpList P ops Q (o :: rest) a w :=
  wpList_step fun K hK => by rw [if_pos hw]; exact h K hK
/-- append(v, x...) of whole numbers, behind a guard. -/
theorem wp_appI_on {ops : Array Oper} {rest : List Oper} {o : Oper} {a : Act} {Q : Exit → Act → World → Prop} {w : World} (hgd : Region.wanted o (yielded ops a.tmps) = true) (s0 x0 : Operand)
    (ho : o.op = .call { callee := .builtin .append, args := #[s0, x0], argTypes := #[39, 39] }) {B : Nat} {v x : Value} {l m : List Int} (hs : a.eval s0 = v) (hown : OwnI w B v l)
    (hx : a.eval x0 = x) (hr : RdI w x m) (hn : l.length + m.length ≤ 1000000000) (hB : B ≤ w.heap.size)
    (h : ∀ v' w', OwnI w' B v' (l ++ m) → w.grownBy w' v.ownBlock → (v'.ownBlock = v.ownBlock ∨ ∃ k, v'.ownBlock = some k ∧ w.heap.size ≤ k) → wpList Tryz.prog ops Q rest (a.put o.dst v') w') :
    wpList Tryz.prog ops Q (o :: rest) a w := by
  refine wpList_on hgd fun K hK => ?_
  obtain ⟨v', w', hrun, h2, h3, h4⟩ := run_app (P := Tryz.prog) w B 39 o.type 3 _ 1 8 Tryz.underlying39 Tryz.infoI rfl (by omega) v _ _ hown x _ _ hr (int_one m) (by unfold maxLen; omega) (by omega) hB
  unfold Oper.wp execOp
  simp only [ho, resolve, invoke, builtin, Sem.run_bind, Sem.run_pure, Result.andThen_ok, List.map_toArray, List.map_cons, List.map_nil, hs, hx, hrun]
  exact hK _ _ (h v' w' (own_appI h2) h3 h4)
end Go.Proofs.YtipankjajdpiiaaGreat

/- What is done with a disk, in memory; Vast. -/
namespace Go.Proofs.YtipankjajdpiiaaGreat
open Go.RowKit
set_option maxRecDepth 100000
set_option maxHeartbeats 400000

structure OpV where
  kind : Int
  name : List UInt8
  into : List UInt8
  off : Int
  n : Int
  bv : Value
  b : List UInt8
  mask : UInt8
  kv : Value
  keep : List Int
def OpV.cells (o : OpV) : List Value := [.int .i64 o.kind, .string ⟨o.name.toArray⟩, .string ⟨o.into.toArray⟩, .int .i64 o.off, .int .i64 o.n, o.bv, .int .u8 o.mask.toNat, o.kv]
structure OpOk (w : World) (o : OpV) : Prop where
  b : RdB w o.bv o.b
  keep : RdI w o.kv o.keep
  kind : -9223372036854775808 ≤ o.kind ∧ o.kind ≤ 9223372036854775807
  off : -9223372036854775808 ≤ o.off ∧ o.off ≤ 9223372036854775807
  n : -9223372036854775808 ≤ o.n ∧ o.n ≤ 9223372036854775807
  name : o.name.length ≤ maxLen
  into : o.into.length ≤ maxLen
  keepI : ∀ z ∈ o.keep, -9223372036854775808 ≤ z ∧ z ≤ 9223372036854775807
def opL (l : List OpV) : List Value := l.flatMap OpV.cells
def RdO (w : World) (v : Value) (l : List OpV) : Prop := Rd w 8 v l.length (opL l) ∧ ∀ o ∈ l, OpOk w o
theorem opL_at (l : List OpV) {k j : Nat} (hk : k < l.length) (hj : j < 8) : (opL l)[k * 8 + j]? = (l[k].cells)[j]? := by
  induction l generalizing k with
  | nil => simp at hk
  | cons r l ih =>
    have hl : r.cells.length = 8 := rfl
    unfold opL at *
    rw [List.flatMap_cons]
    cases k with
    | zero =>
      rw [List.getElem?_append_left (by omega)]
      simp
    | succ k =>
      rw [List.getElem?_append_right (by omega), hl, show (k + 1) * 8 + j - 8 = k * 8 + j from by omega]
      exact ih (by simpa using hk)
theorem OpOk.ext {w w' : World} {o : OpV} (h : OpOk w o) (g : w.grownBy w' none) : OpOk w' o := { h with b := h.b.ext g, keep := h.keep.ext g }
theorem RdO.ext {w w' : World} {v : Value} {l : List OpV} (h : RdO w v l) (g : w.grownBy w' none) : RdO w' v l := ⟨Rd.ext h.1 g, fun o ho => (h.2 o ho).ext g⟩
theorem RdO.form {w : World} {v : Value} {l : List OpV} (h : RdO w v l) : ∃ A c, v = .slice A l.length c := by
  obtain ⟨⟨_, A, c, _, _, e, _⟩, _⟩ := h; exact ⟨A, c, e⟩
theorem RdO.at_ {w : World} {A : Option Addr} {c : Nat} {l : List OpV} (h : RdO w (.slice A l.length c) l) : ∃ g off, (0 < l.length → A = some ⟨g, off, none⟩) ∧ l.length ≤ c ∧ c ≤ maxLen ∧ ∀ k (hk : k < l.length) j, j < 8 → w.cell? ⟨g, off + k * 8 + j, none⟩ = (l[k].cells)[j]? := by
  obtain ⟨⟨hl, A', c', g, off, e, hn, hc, hA0, hA, hx⟩, _⟩ := h
  cases e
  refine ⟨g, off, fun h0 => hA (by omega), hn, hc, fun k hk j hj => ?_⟩
  rw [Nat.add_assoc, hx _ (by omega), opL_at l hk hj]
def opW (o : OpV) : Nat := min o.b.length 131072 + min o.keep.length 131072 + min o.name.length 131072 + min o.into.length 131072
def sumW (l : List OpV) : Nat := (l.map opW).sum
def vastB (l : List OpV) : Bool := decide (150 < l.length) || decide (65536 < sumW l)
theorem sumW_take {l : List OpV} {k : Nat} (hk : k < l.length) : sumW (l.take (k + 1)) = sumW (l.take k) + opW l[k] := by
  unfold sumW
  rw [List.take_succ_eq_append_getElem hk, List.map_append, List.sum_append]
  simp
theorem sumW_mono (l : List OpV) (k : Nat) : sumW (l.take k) ≤ sumW l := by
  have e : l = l.take k ++ l.drop k := (List.take_append_drop k l).symm
  conv => rhs; rw [e]
  unfold sumW
  rw [List.map_append, List.sum_append]
  omega
theorem vast_no {l : List OpV} (h : vastB l = false) : l.length ≤ 150 ∧ sumW l ≤ 65536 := by
  unfold vastB at h
  simp at h
  omega
theorem opW_le {l : List OpV} (o : OpV) (ho : o ∈ l) : opW o ≤ sumW l := by
  obtain ⟨k, hk, rfl⟩ := List.getElem_of_mem ho
  have := sumW_take hk
  have := sumW_mono l (k + 1)
  omega
theorem opW_small {o : OpV} (h : opW o ≤ 65536) : o.b.length ≤ 65536 ∧ o.keep.length ≤ 65536 ∧ o.name.length ≤ 65536 ∧ o.into.length ≤ 65536 := by
  unfold opW at h
  omega
set_option maxHeartbeats 2000000 in
theorem vast_any (v : Value) (l : List OpV) (w : World) (h : RdO w v l) :
    Calls Tryz.prog 43 #[v] w fun e w' => e = .returned (.bool (vastB l)) ∧ ∃ q, w' = w.drewN q := by
  obtain ⟨A, c, rfl⟩ := h.form
  obtain ⟨g, off, hA, hcap, hmx, hcells⟩ := h.at_
  have HA := Lib.hid hA
  have HC := Lib.hid hcells
  have HOK := Lib.hid h.2
  clear hA hcells h
  by_cases hbig : 150 < l.length
  · have hv : Hid (vastB l = true) := by show _ = _; unfold vastB; simp [hbig]
    go_enter Tryz.func43, Tryz.ntmps43
    go_wp2
    go_ret
    exact ⟨by rw [hv.out]; rfl, 0, rfl⟩
  · have hl : l.length ≤ 150 := by omega
    clear hbig
    go_enter Tryz.func43, Tryz.ntmps43
    go_wp2
    go_loopw [3, 4] (fun s i wr => ∃ k : Nat, k ≤ l.length ∧ i = .int .i64 k ∧ (∃ m : Nat, s = .int .i64 m ∧ Hid (m = sumW (l.take k)) ∧ m ≤ 65536) ∧ DrewS w wr) (fun _ i _ => l.length - (intOf i).toNat)
    case atStart => exact ⟨0, by omega, rfl, ⟨0, rfl, rfl, by omega⟩, 0, rfl⟩
    case round =>
      obtain ⟨k, hk, rfl, ⟨m, rfl, hm, hm2⟩, q0, hq0⟩ := hrel
      have HQ0 := Lib.hid hq0
      have hg : w.grownBy wr none := by rw [hq0]; exact gr_drewN w q0 none
      clear hq0
      by_cases hlt : k < l.length
      · obtain rfl := HA.out (by omega)
        have hc := HC.out k hlt
        have hok := HOK.out l[k] (List.getElem_mem hlt)
        have hsum := sumW_take hlt
        rcases hx : l[k] with ⟨kind, name, into, off1, n1, bv, b, mask, kv, keep⟩
        rw [hx] at hc hok hsum
        obtain ⟨Ab, cb, rfl⟩ : ∃ Ab cb, bv = .slice Ab b.length cb := hok.b.form
        obtain ⟨Ak, ck, rfl⟩ : ∃ Ak ck, kv = .slice Ak keep.length ck := hok.keep.form
        have c1 : wr.cell? ⟨g, off + k * 8 + 1, none⟩ = some (.string ⟨name.toArray⟩) := hg.cell (hc 1 (by omega)) (by simp)
        have c2 : wr.cell? ⟨g, off + k * 8 + 2, none⟩ = some (.string ⟨into.toArray⟩) := hg.cell (hc 2 (by omega)) (by simp)
        have c5 : wr.cell? ⟨g, off + k * 8 + 5, none⟩ = some (.slice Ab b.length cb) := hg.cell (hc 5 (by omega)) (by simp)
        have c7 : wr.cell? ⟨g, off + k * 8 + 7, none⟩ = some (.slice Ak keep.length ck) := hg.cell (hc 7 (by omega)) (by simp)
        have hnm : name.length ≤ maxLen := hok.name
        have hin : into.length ≤ maxLen := hok.into
        have hbr : RdB w (.slice Ab b.length cb) b := hok.b
        have hbc : b.length ≤ maxLen := by obtain ⟨_, _, _, _, _, e, h1, h2, _⟩ := hbr; cases e; omega
        have hkr : RdI w (.slice Ak keep.length ck) keep := hok.keep
        have hkc : keep.length ≤ maxLen := by obtain ⟨_, _, _, _, _, e, h1, h2, _⟩ := hkr; cases e; omega
        obtain ⟨x1, e1⟩ : ∃ x1 : Nat, x1 = min b.length 131072 := ⟨_, rfl⟩
        obtain ⟨x2, e2⟩ : ∃ x2 : Nat, x2 = min keep.length 131072 := ⟨_, rfl⟩
        obtain ⟨x3, e3⟩ : ∃ x3 : Nat, x3 = min name.length 131072 := ⟨_, rfl⟩
        obtain ⟨x4, e4⟩ : ∃ x4 : Nat, x4 = min into.length 131072 := ⟨_, rfl⟩
        have m1 : min (b.length : Int) 131072 = (x1 : Int) := by omega
        have m2 : min (keep.length : Int) 131072 = (x2 : Int) := by omega
        have m3 : min (name.length : Int) 131072 = (x3 : Int) := by omega
        have m4 : min (into.length : Int) 131072 = (x4 : Int) := by omega
        have b1 : x1 ≤ 131072 ∧ x2 ≤ 131072 ∧ x3 ≤ 131072 ∧ x4 ≤ 131072 := by omega
        have hopw : opW ⟨kind, name, into, off1, n1, .slice Ab b.length cb, b, mask, .slice Ak keep.length ck, keep⟩ = x1 + x2 + x3 + x4 := by unfold opW; dsimp only; omega
        rw [hopw] at hsum
        have HS : Hid (sumW (l.take (k + 1)) = m + x1 + x2 + x3 + x4) := by show _ = _; rw [hsum, hm.out]; omega
        have s1 : IntKind.i64.wrap ((m : Int) + (x1 : Int)) = (m : Int) + (x1 : Int) := by rw [IntWalk.i64_in _ (by omega)]
        have s2 : IntKind.i64.wrap ((m : Int) + (x1 : Int) + (x2 : Int)) = (m : Int) + (x1 : Int) + (x2 : Int) := by rw [IntWalk.i64_in _ (by omega)]
        have s3 : IntKind.i64.wrap ((m : Int) + (x1 : Int) + (x2 : Int) + (x3 : Int)) = (m : Int) + (x1 : Int) + (x2 : Int) + (x3 : Int) := by rw [IntWalk.i64_in _ (by omega)]
        have s4 : IntKind.i64.wrap ((m : Int) + (x1 : Int) + (x2 : Int) + (x3 : Int) + (x4 : Int)) = (m : Int) + (x1 : Int) + (x2 : Int) + (x3 : Int) + (x4 : Int) := by rw [IntWalk.i64_in _ (by omega)]
        have hk1 : (0 : Int) ≤ (k : Int) := by omega
        have hk2 : (k : Int) < (l.length : Int) := by omega
        obtain ⟨t, ht⟩ : ∃ t : Nat, t = m + x1 + x2 + x3 + x4 := ⟨_, rfl⟩
        have ht2 : (m : Int) + (x1 : Int) + (x2 : Int) + (x3 : Int) + (x4 : Int) = (t : Int) := by omega
        have HT2 := Lib.hid ht2
        have HT : Hid (t = sumW (l.take (k + 1))) := by show _ = _; rw [HS.out, ht]
        have htb : t ≤ 600000 := by omega
        clear hbr hkr hc hok hsum hx e1 e2 e3 e4 hopw ht ht2 HS
        go_wp2_with fail
        go_quiet (fail)
        rw [HT2.out]
        by_cases hov : 65536 < t
        · have hd : decide ((65536 : Int) < (t : Int)) = true := by simp; omega
          have hv : Hid (vastB l = true) := by
            show _ = _
            unfold vastB
            have := sumW_mono l (k + 1)
            rw [← HT.out] at this
            simp; omega
          clear hov
          go_wp2
          go_ret
          exact ⟨by rw [hv.out]; rfl, q0 + nq, by rw [HQ0.out, World.drewN_drewN]⟩
        · have hd : decide ((65536 : Int) < (t : Int)) = false := by simp; omega
          have ht3 : t ≤ 65536 := by omega
          clear hov
          go_wp2
          go_roundw
          case rel => exact ⟨k + 1, by omega, by go_num, ⟨t, rfl, HT.out, ht3⟩, q0 + nq, by rw [HQ0.out, World.drewN_drewN]⟩
          case measure => simp [intOf]; omega
      · obtain rfl : k = l.length := by omega
        have hv : Hid (vastB l = false) := by
          show _ = _
          have := hm.out
          rw [List.take_length] at this
          unfold vastB
          simp; omega
        go_wp2
        go_ret
        exact ⟨by rw [hv.out]; rfl, q0, HQ0.out⟩
end Go.Proofs.YtipankjajdpiiaaGreat
