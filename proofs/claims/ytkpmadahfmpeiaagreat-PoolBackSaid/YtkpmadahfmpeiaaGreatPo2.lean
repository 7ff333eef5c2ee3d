/-
  pool: its frames and keys in memory; Held.
-/
import Derived.Test.YtkpmadahfmpeiaaGreatPf2
import Derived.Test.YtkpmadahfmpeiaaGreatRg
import Derived.Test.YtkpmadahfmpeiaaGreatVm
namespace Go.Proofs.YtkpmadahfmpeiaaGreat
open Go.RowKit Go.Maps
set_option maxRecDepth 100000
set_option maxHeartbeats 400000

/-! keys of pages -/
def kP (s : List UInt8) (k : Int) : Lit := .string (keyBytes [.string s, .int .i64 k])
def vP (s : List UInt8) (k : Int) : Value := .agg #[.string ⟨s.toArray⟩, .int .i64 k]
theorem Tryz.keyedP : Keyed Tryz.prog 132 := Keyed.of_law (deep_law_laid Tryz.laidOut (m := 2) (by omega) (of_decide_eq_true (by kernel_rfl)) (by kernel_rfl) (by rw [Tryz.underlying132]))
theorem Tryz.cellsP : Tryz.prog.cellsOf 132 = 2 := by kernel_rfl
theorem Tryz.ktP : Tryz.prog.keyType 132 = true := by kernel_rfl
theorem keyLits_P (d : Nat) (s : List UInt8) (k : Int) (h : okK s k) : Tryz.prog.keyLits (d + 2) 132 [.string ⟨s.toArray⟩, .int .i64 k] = some [.string s, .int .i64 k] := by
  have hz : (⟨s.toArray⟩ : ByteArray).size ≤ maxLen := h.1
  have c1 : Tryz.prog.cellsOf 9 = 1 := by kernel_rfl
  have c2 : Tryz.prog.cellsOf 3 = 1 := by kernel_rfl
  have e1 : Tryz.prog.keyLits (d + 1) 9 [.string ⟨s.toArray⟩] = some [.string s] := by simp [Program.keyLits, Tryz.underlying9, hz]
  have e2 : Tryz.prog.keyLits (d + 1) 3 [.int .i64 k] = some [.int .i64 k] := by simp [Program.keyLits, Tryz.underlying3, h.2]
  rw [Program.keyLits.eq_def]
  simp [Tryz.underlying132, Tryz.cellsP, c1, c2, e1, e2]
theorem keyP {s : List UInt8} {k : Int} (h : okK s k) : keyOf Tryz.prog 132 (vP s k) = some (kP s k) := by
  obtain ⟨d, hd⟩ : ∃ d, Tryz.prog.types.size + 1 = d + 2 := ⟨Tryz.prog.types.size - 1, by have : 1 ≤ Tryz.prog.types.size := of_decide_eq_true (by kernel_rfl); omega⟩
  have hf : (vP s k).formed Tryz.prog 132 = true := by simp [Value.formed, vP, Tryz.underlying132, Tryz.cellsP]
  have := keyLits_P d s k h
  rw [← hd] at this
  have hc : (vP s k).cells.toList = [.string ⟨s.toArray⟩, .int .i64 k] := rfl
  unfold keyOf
  rw [Tryz.underlying132]
  simp only [Tryz.ktP, hf, Bool.and_true, if_true, hc, this, Option.map_some]
  rfl
theorem keyP_inv {v : Value} {kl : Lit} (h : keyOf Tryz.prog 132 v = some kl) : ∃ s k, v = vP s k ∧ kl = kP s k ∧ okK s k := by
  have h0 := h
  unfold keyOf at h
  rw [Tryz.underlying132] at h
  simp only at h
  split at h
  · rename_i hf
    have hfm : v.formed Tryz.prog 132 = true := by simp only [Bool.and_eq_true] at hf; exact hf.2
    cases v with
    | agg cs =>
      have hsz : cs.size = 2 := by simpa [Value.formed, Tryz.underlying132, Tryz.cellsP] using hfm
      obtain ⟨c0, c1, rfl⟩ : ∃ c0 c1, cs = #[c0, c1] := by
        obtain ⟨l⟩ := cs
        match l, hsz with
        | [a, b], _ => exact ⟨a, b, rfl⟩
      have hc : (Value.agg #[c0, c1]).cells.toList = [c0, c1] := rfl
      rw [hc] at h
      obtain ⟨d, hd⟩ : ∃ d, Tryz.prog.types.size + 1 = d + 2 := ⟨Tryz.prog.types.size - 1, by have : 1 ≤ Tryz.prog.types.size := of_decide_eq_true (by kernel_rfl); omega⟩
      rw [hd] at h
      have k1 : Tryz.prog.cellsOf 9 = 1 := by kernel_rfl
      have k2 : Tryz.prog.cellsOf 3 = 1 := by kernel_rfl
      rw [Program.keyLits.eq_def] at h
      cases hx : Tryz.prog.keyLits (d + 1) 9 [c0] with
      | none => simp [Tryz.underlying132, Tryz.cellsP, k1, k2, hx] at h
      | some x =>
        cases hy : Tryz.prog.keyLits (d + 1) 3 [c1] with
        | none => simp [Tryz.underlying132, Tryz.cellsP, k1, k2, hx, hy] at h
        | some y =>
          simp [Tryz.underlying132, Tryz.cellsP, k1, k2, hx, hy] at h
          obtain ⟨s, rfl, rfl, hs⟩ : ∃ s : List UInt8, c0 = .string ⟨s.toArray⟩ ∧ x = [.string s] ∧ s.length ≤ maxLen := by
            cases c0 <;> simp [Program.keyLits, Tryz.underlying9] at hx
            rename_i b
            obtain ⟨hb, rfl⟩ := hx
            exact ⟨b.data.toList, by cases b; simp, rfl, hb⟩
          obtain ⟨k, rfl, rfl, hk⟩ : ∃ k : Int, c1 = .int .i64 k ∧ y = [.int .i64 k] ∧ (Lit.int .i64 k).wf = true := by
            cases c1 <;> simp [Program.keyLits, Tryz.underlying3] at hy
            obtain ⟨⟨rfl, hw⟩, rfl⟩ := hy
            exact ⟨_, rfl, rfl, hw⟩
          exact ⟨s, k, rfl, h.symm, hs, hk⟩
    | _ => simp [Value.formed, Tryz.underlying132] at hfm
  · cases h
theorem kP_inj {s s' : List UInt8} {k k' : Int} (h : okK s k) (h' : okK s' k') (e : kP s k = kP s' k') : s = s' ∧ k = k' := by
  have h1 := keyP h
  rw [e] at h1
  have := Tryz.keyedP.inj h1 (keyP h')
  simp only [vP, Value.agg.injEq] at this
  have := congrArg Array.toList this
  simp at this
  exact this
structure PK where
  n : List UInt8
  k : Int
  ok : okK n k
theorem PK.ext' {x y : PK} (h1 : x.n = y.n) (h2 : x.k = y.k) : x = y := by cases x; cases y; cases h1; cases h2; rfl
instance : DecidableEq PK := fun x y => if h : x.n = y.n ∧ x.k = y.k then .isTrue (PK.ext' h.1 h.2) else .isFalse fun e => h (by rw [e]; exact ⟨rfl, rfl⟩)
def pkK : KeyK Tryz.prog 132 PK where
  kv x := vP x.n x.k
  kl x := kP x.n x.k
  key x := keyP x.ok
  inv v l h := by obtain ⟨s, k, h1, h2, h3⟩ := keyP_inv h; exact ⟨⟨s, k, h3⟩, h1, h2⟩
  inj x y h := by obtain ⟨h1, h2⟩ := kP_inj x.ok y.ok h; exact PK.ext' h1 h2
  isK x := trivial
  keyed := Tryz.keyedP

/-! frames -/
structure Fr where
  full : Bool
  n : List UInt8
  k : Int
  b : List UInt8
  bv : Value
  pins : Nat
  dirty : Bool
  used : Bool
def Fr.enc (x : Fr) : List Value := [.bool x.full, .string ⟨x.n.toArray⟩, .int .i64 x.k, x.bv, .int .i64 x.pins, .bool x.dirty, .bool x.used]
theorem fr7 (x : Fr) : x.enc.length = 7 := rfl
def fr0 : Fr := ⟨false, [], 0, [], .slice none 0 0, 0, false, false⟩
/-- a frame's bytes: in memory that neither the disk nor the pool's own blocks hold. -/
structure FrB (w : World) (B : Nat) (o : Own1) (p g mb : Nat) (x : Fr) : Prop where
  rd : RdB w x.bv x.b
  off : ∀ q, blk x.bv = some q → o q = none ∧ q ≠ p ∧ q ≠ g ∧ q ≠ mb ∧ q < w.heap.size ∧ B ≤ q
  len : x.b.length ≤ 240 ∧ x.n.length ≤ 1000000000 ∧ x.pins ≤ 1000000000000 ∧ (-4611686018427387904 ≤ x.k ∧ x.k ≤ 4611686018427387904)
structure Pl where
  fr : List Fr
  wh : PK → Option Nat
  hand : Nat
  mf : Nat
  mp : Nat
structure PoR (w : World) (B : Nat) (o : Own1) (d p g mb : Nat) (P : Pl) (nm : Nat) : Prop where
  self : Blk w p 113 #[.pointer (some ⟨d, 0, none⟩), .slice (some ⟨g, 0, none⟩) P.fr.length P.fr.length, .map (some mb), .int .i64 P.hand, .int .i64 P.mf, .int .i64 P.mp]
  fr : Blk w g 134 (P.fr.flatMap Fr.enc).toArray
  wh : VM pkK w mb nm (fun x => (P.wh x).map fun i => .int .i64 i)
  whi : ∀ x i, P.wh x = some i ↔ ∃ h : i < P.fr.length, P.fr[i].full = true ∧ P.fr[i].n = x.n ∧ P.fr[i].k = x.k
  bytes : ∀ x ∈ P.fr, FrB w B o p g mb x
  off : o p = none ∧ o g = none ∧ o mb = none
  low : B ≤ p ∧ B ≤ g ∧ B ≤ mb
  apart : p ≠ g ∧ p ≠ mb ∧ g ≠ mb
  lim : 1 ≤ P.fr.length ∧ P.fr.length ≤ 4096 ∧ P.hand < P.fr.length ∧ P.mf ≤ 4096 ∧ P.mp ≤ 4096
section
variable {w w' : World} {B d p g mb nm : Nat} {o o' : Own1} {P : Pl}
theorem FrB.ch {x : Fr} (h : FrB w B o p g mb x) (hc : Ch o w o' w') : FrB w' B o' p g mb x :=
  ⟨hc.rd h.rd fun k e => ⟨(h.off k e).2.2.2.2.1, (h.off k e).1⟩, fun q e => by obtain ⟨h1, h2, h3, h4, h5, h6⟩ := h.off q e; exact ⟨hc.free q h5 h1, h2, h3, h4, Nat.lt_of_lt_of_le h5 hc.size, h6⟩, h.len⟩
theorem PoR.ch (h : PoR w B o d p g mb P nm) (hc : Ch o w o' w') : PoR w' B o' d p g mb P nm :=
  ⟨hc.blk h.self h.off.1, hc.blk h.fr h.off.2.1, h.wh.same (hc.block _ h.wh.lt h.off.2.2), h.whi, fun x hx => (h.bytes x hx).ch hc, ⟨hc.free _ h.self.lt h.off.1, hc.free _ h.fr.lt h.off.2.1, hc.free _ h.wh.lt h.off.2.2⟩, h.low, h.apart, h.lim⟩
theorem PoR.ext (h : PoR w B o d p g mb P nm) (hg : w.grownBy w' none) : PoR w' B o d p g mb P nm := h.ch (Ch.ext hg)
theorem PoR.selfc (h : PoR w B o d p g mb P nm) : w.cell? ⟨p, 0, none⟩ = some (.pointer (some ⟨d, 0, none⟩)) ∧ w.cell? ⟨p, 1, none⟩ = some (.slice (some ⟨g, 0, none⟩) P.fr.length P.fr.length) ∧ w.cell? ⟨p, 2, none⟩ = some (.map (some mb)) ∧
    w.cell? ⟨p, 3, none⟩ = some (.int .i64 P.hand) ∧ w.cell? ⟨p, 4, none⟩ = some (.int .i64 P.mf) ∧ w.cell? ⟨p, 5, none⟩ = some (.int .i64 P.mp) := ⟨h.self.cell 0, h.self.cell 1, h.self.cell 2, h.self.cell 3, h.self.cell 4, h.self.cell 5⟩
theorem frame_cell {fr : List Fr} (h : Blk w g 134 (fr.flatMap Fr.enc).toArray) {i : Nat} (hi : i < fr.length) {j : Nat} (hj : j < 7) : w.cell? ⟨g, i * 7 + j, none⟩ = (fr[i].enc)[j]? := by
  rw [h.cell, List.getElem?_toArray, flat_at fr7 fr hi hj]
theorem frame_cells {fr : List Fr} (h : Blk w g 134 (fr.flatMap Fr.enc).toArray) {i : Nat} (hi : i < fr.length) {x : Fr} (e : fr[i] = x) :
    w.cell? ⟨g, i * 7, none⟩ = some (.bool x.full) ∧ w.cell? ⟨g, i * 7 + 1, none⟩ = some (.string ⟨x.n.toArray⟩) ∧ w.cell? ⟨g, i * 7 + 2, none⟩ = some (.int .i64 x.k) ∧ w.cell? ⟨g, i * 7 + 3, none⟩ = some x.bv ∧
      w.cell? ⟨g, i * 7 + 4, none⟩ = some (.int .i64 x.pins) ∧ w.cell? ⟨g, i * 7 + 5, none⟩ = some (.bool x.dirty) ∧ w.cell? ⟨g, i * 7 + 6, none⟩ = some (.bool x.used) := by
  subst e
  exact ⟨frame_cell h hi (j := 0) (by omega), frame_cell h hi (j := 1) (by omega), frame_cell h hi (j := 2) (by omega), frame_cell h hi (j := 3) (by omega), frame_cell h hi (j := 4) (by omega), frame_cell h hi (j := 5) (by omega), frame_cell h hi (j := 6) (by omega)⟩
def heldN (q : Fr → Bool) (fr : List Fr) : Nat := (fr.filter q).length
theorem heldN_succ (q : Fr → Bool) {fr : List Fr} {i : Nat} (hi : i < fr.length) : heldN q (fr.take (i + 1)) = heldN q (fr.take i) + (if q fr[i] = true then 1 else 0) := by
  unfold heldN
  rw [List.take_succ_eq_append_getElem hi, List.filter_append, List.length_append]
  congr 1
  by_cases h : q fr[i] = true <;> simp [h]
theorem heldN_le (q : Fr → Bool) (fr : List Fr) : heldN q fr ≤ fr.length := List.length_filter_le _ _
set_option maxHeartbeats 4000000 in
theorem held_any (h : PoR w B o d p g mb P nm) : Calls Tryz.prog 41 #[.pointer (some ⟨p, 0, none⟩)] w fun e w' =>
    e = .returned (.tuple #[.int .i64 (heldN Fr.full P.fr), .int .i64 (heldN (fun f => decide (0 < f.pins)) P.fr), .int .i64 (heldN Fr.dirty P.fr)]) ∧ w.grownBy w' none := by
  obtain ⟨s0, s1, -⟩ := h.selfc
  have HF := Lib.hid h.fr
  have HB := Lib.hid h.bytes
  have hl := h.lim.2.1
  clear h
  obtain ⟨fr, hfr⟩ : ∃ fr, fr = P.fr := ⟨_, rfl⟩
  rw [← hfr] at s1 HF HB hl ⊢
  clear hfr
  go_enter Tryz.func41, Tryz.ntmps41
  go_wp2
  go_loopw [2, 3, 4, 6, 14] (fun a b c _ i wr => ∃ k : Nat, k ≤ fr.length ∧ i = .int .i64 k ∧ a = .int .i64 (heldN Fr.full (fr.take k)) ∧ b = .int .i64 (heldN (fun f => decide (0 < f.pins)) (fr.take k)) ∧ c = .int .i64 (heldN Fr.dirty (fr.take k)) ∧ w.grownBy wr none) (fun _ _ _ _ i _ => fr.length - (intOf i).toNat)
  case atStart => exact ⟨0, by omega, rfl, rfl, rfl, rfl, gr_refl _ _⟩
  case round =>
    obtain ⟨k, hk, rfl, rfl, rfl, rfl, hg⟩ := hrel
    have HG := Lib.hid hg
    by_cases hlt : k < fr.length
    · have h1 := heldN_succ Fr.full hlt
      have h2 := heldN_succ (fun f => decide (0 < f.pins)) hlt
      have h3 := heldN_succ Fr.dirty hlt
      have l1 := heldN_le Fr.full (fr.take k)
      have l2 := heldN_le (fun f => decide (0 < f.pins)) (fr.take k)
      have l3 := heldN_le Fr.dirty (fr.take k)
      rw [List.length_take] at l1 l2 l3
      have hb := (HB.out _ (List.getElem_mem hlt)).rd
      obtain ⟨x, hx⟩ : ∃ x, x = fr[k] := ⟨_, rfl⟩
      rw [← hx] at h1 h2 h3 hb
      obtain ⟨c0, c1, c2, c3, c4, c5, c6⟩ := frame_cells (HF.out.ext hg) hlt hx.symm
      obtain ⟨Ab, cb, hbv⟩ := hb.form
      rw [hbv] at c3
      obtain ⟨xf, xn, xk, xb, xv, xp, xd, xu⟩ := x
      obtain ⟨n1, e1⟩ : ∃ n1, n1 = heldN Fr.full (fr.take k) := ⟨_, rfl⟩
      obtain ⟨n2, e2⟩ : ∃ n2, n2 = heldN (fun f => decide (0 < f.pins)) (fr.take k) := ⟨_, rfl⟩
      obtain ⟨n3, e3⟩ : ∃ n3, n3 = heldN Fr.dirty (fr.take k) := ⟨_, rfl⟩
      rw [← e1] at h1 l1 ⊢
      rw [← e2] at h2 l2 ⊢
      rw [← e3] at h3 l3 ⊢
      have l1 : n1 ≤ 4096 := by omega
      have l2 : n2 ≤ 4096 := by omega
      have l3 : n3 ≤ 4096 := by omega
      simp only [] at h1 h2 h3 c0 c1 c2 c3 c4 c5 c6
      have H1 := Lib.hid h1
      have H2 := Lib.hid h2
      have H3 := Lib.hid h3
      clear h1 h2 h3 e1 e2 e3 hx hb hbv hg
      by_cases hp : 0 < xp
      · have hp1 : (0 : Int) < (xp : Int) := by omega
        have q2 : Hid (heldN (fun f => decide (0 < f.pins)) (fr.take (k + 1)) = n2 + 1) := by show _ = _; rw [H2.out, if_pos (by simpa using hp)]
        clear H2 hp
        cases xf <;> cases xd
        all_goals
          go_wp2
          go_roundw
          case rel => exact ⟨k + 1, by omega, by go_num, by rw [H1.out]; simp, by rw [q2.out]; go_num, by rw [H3.out]; simp, gr_none HG.out (gr_alloc _ _ _)⟩
          case measure => simp [intOf] <;> omega
      · obtain rfl : xp = 0 := by omega
        have q2 : Hid (heldN (fun f => decide (0 < f.pins)) (fr.take (k + 1)) = n2) := by show _ = _; rw [H2.out, if_neg (by simp)]; rfl
        clear H2 hp
        cases xf <;> cases xd
        all_goals
          go_wp2
          go_roundw
          case rel => exact ⟨k + 1, by omega, by go_num, by rw [H1.out]; simp, by rw [q2.out], by rw [H3.out]; simp, gr_none HG.out (gr_alloc _ _ _)⟩
          case measure => simp [intOf] <;> omega
    · obtain rfl : k = fr.length := by omega
      rw [List.take_length]
      go_wp2
      go_ret3
      exact ⟨rfl, HG.out⟩
end
end Go.Proofs.YtkpmadahfmpeiaaGreat

/- pool: onDisk, Pages. -/
namespace Go.Proofs.YtkpmadahfmpeiaaGreat
open Go.RowKit Go.Maps
set_option maxRecDepth 100000
set_option maxHeartbeats 400000

section
variable {w w' : World} {B d p g mb nm : Nat} {o o' : Own1} {P : Pl} {S : Dk} {c : Con} {n : List UInt8}
/-- how many pages the disk has of a file. -/
def Dk.pgs (S : Dk) (n : List UInt8) : Nat × Nat := if (S.size n).2 ≠ 0 then (0, (S.size n).2) else if (S.size n).1 % 256 ≠ 0 then (0, 7) else ((S.size n).1 / 256, 0)
def POpenO (o : Own1) (d : Nat) (n : List UInt8) (X : Nat × Nat) (w : World) (e : Ending) (w' : World) : Prop := w.grownBy w' none ∧
  ((X.2 ≠ 0 ∧ e = .returned (.tuple #[.pointer none, .int .i64 X.2])) ∨ (X.2 = 0 ∧ ∃ pf, e = .returned (.tuple #[.pointer (some ⟨pf, 0, none⟩), .int .i64 0]) ∧ w.heap.size ≤ pf ∧ PfR w' w.heap.size o d pf n))
def OnDiskO (o : Own1) (d : Nat) (n : List UInt8) (X : Nat × Nat) (w : World) (e : Ending) (w' : World) : Prop := w.grownBy w' none ∧
  ((X.2 ≠ 0 ∧ e = .returned (.tuple #[.pointer none, .int .i64 0, .int .i64 X.2])) ∨ (X.2 = 0 ∧ ∃ pf, e = .returned (.tuple #[.pointer (some ⟨pf, 0, none⟩), .int .i64 X.1, .int .i64 0]) ∧ w.heap.size ≤ pf ∧ PfR w' w.heap.size o d pf n))
def PagesO (X : Nat × Nat) (m : Int) (w : World) (e : Ending) (w' : World) : Prop := w.grownBy w' none ∧
  ((X.2 ≠ 0 ∧ e = .returned (.tuple #[.int .i64 0, .int .i64 X.2])) ∨ (X.2 = 0 ∧ e = .returned (.tuple #[.int .i64 m, .int .i64 0])))
theorem popen_gen (h : DI w B o d S c) (hn : n.length ≤ 1000000000) :
    Calls Tryz.prog 81 #[.pointer (some ⟨d, 0, none⟩), .string ⟨n.toArray⟩] w (POpenO o d n (S.pgs n) w) := by
  have hz := size_le h n
  have HS := Lib.hid (size_any h n hn)
  have HM := Lib.hid (made_any d n hn)
  have HF : Hid (∀ i, w.heap.size ≤ i → o i = none) := fun i hi => by
    cases e : o i with
    | none => rfl
    | some t => exact absurd (h.inb i (by rw [e]; simp)).2 (by omega)
  clear h
  obtain ⟨Y, hY⟩ : ∃ Y, Y = S.pgs n := ⟨_, rfl⟩
  rw [← hY]
  unfold Dk.pgs at hY
  obtain ⟨X, hX⟩ : ∃ X, X = S.size n := ⟨_, rfl⟩
  rw [← hX] at hz HS hY
  obtain ⟨a, e⟩ := X
  simp only [] at hz HS hY
  clear hX
  by_cases he : e = 0
  · subst he
    rw [if_neg (by simp)] at hY
    by_cases hm : a % 256 = 0
    · have hm2 : ((a : Int) % 256 != 0) = false := by rw [bne_eq_false_iff_eq]; omega
      have hr : IntKind.i64.wrap ((a : Int) % 256) = (a : Int) % 256 := by rw [IntWalk.i64_in _ (by omega)]
      rw [if_neg (by rw [hm]; simp)] at hY
      subst hY
      clear hm
      go_enter Tryz.func81, Tryz.ntmps81
      go_wp2_with fail
      refine HS.out.mono ?_
      rintro e w1 ⟨rfl, g1⟩
      have G1 := Lib.hid g1
      clear g1 HS
      go_wp2_with fail
      refine (HM.out _).mono ?_
      rintro e w2 ⟨pf, rfl, hpf, hb, g2⟩
      have HPF := Lib.hid hpf
      have HB := Lib.hid hb
      have G2 := Lib.hid g2
      clear hpf hb g2
      go_wp2
      go_ret2
      exact ⟨gr_none G1.out G2.out, .inr ⟨rfl, pf, rfl, Nat.le_trans G1.out.size HPF.out, HB.out, HF.out _ (Nat.le_trans G1.out.size HPF.out), Nat.le_trans G1.out.size HPF.out⟩⟩
    · have hm2 : ((a : Int) % 256 != 0) = true := by rw [bne_iff_ne]; omega
      have hr : IntKind.i64.wrap ((a : Int) % 256) = (a : Int) % 256 := by rw [IntWalk.i64_in _ (by omega)]
      rw [if_pos hm] at hY
      subst hY
      clear hm
      go_enter Tryz.func81, Tryz.ntmps81
      go_wp2_with fail
      refine HS.out.mono ?_
      rintro e w1 ⟨rfl, g1⟩
      have G1 := Lib.hid g1
      clear g1 HS
      go_wp2
      go_ret2
      exact ⟨G1.out, .inl ⟨by simp, rfl⟩⟩
  · have hne : ((e : Int) != 0) = true := by rw [bne_iff_ne]; omega
    have HX : Hid (e ≠ 0) := he
    rw [if_pos he] at hY
    subst hY
    clear he
    go_enter Tryz.func81, Tryz.ntmps81
    go_wp2_with fail
    refine HS.out.mono ?_
    rintro e w1 ⟨rfl, g1⟩
    have G1 := Lib.hid g1
    clear g1 HS
    go_wp2
    go_ret2
    exact ⟨G1.out, .inl ⟨HX.out, rfl⟩⟩
theorem pgs_ppages (h : (S.pgs n).2 = 0) : S.ppages n = S.pgs n := by
  unfold Dk.pgs at h ⊢
  unfold Dk.ppages
  split at h
  · next h1 => exact absurd h h1
  · next h1 =>
    split at h
    · cases h
    · next h2 =>
      rw [if_neg h1, if_neg h2]
      have : (S.size n).2 = 0 := by simpa using h1
      rw [this]
theorem onDisk_any (h : DI w B o d S c) (hp : PoR w B o d p g mb P nm) (hn : n.length ≤ 1000000000) :
    Calls Tryz.prog 52 #[.pointer (some ⟨p, 0, none⟩), .string ⟨n.toArray⟩] w (OnDiskO o d n (S.pgs n) w) := by
  obtain ⟨s0, -⟩ := hp.selfc
  have HO := Lib.hid (popen_gen h hn)
  have H := Lib.hid h
  clear h hp
  go_enter Tryz.func52, Tryz.ntmps52
  go_wp2_with fail
  refine HO.out.mono ?_
  rintro e w1 ⟨g1, ⟨he, rfl⟩ | ⟨he, pf, rfl, hpf, hpr⟩⟩
  · have G1 := Lib.hid g1
    have HE := Lib.hid he
    have hne : (((S.pgs n).2 : Int) != 0) = true := by rw [bne_iff_ne]; omega
    clear g1 he HO
    go_wp2
    go_ret3
    exact ⟨G1.out, .inl ⟨HE.out, rfl⟩⟩
  · have G1 := Lib.hid g1
    have HE := Lib.hid he
    have HPF := Lib.hid hpf
    have hpg := pages_any (H.out.ext g1) (⟨hpr.box, hpr.free, Nat.le_trans H.out.base hpr.pB⟩ : PfR w1 B o d pf n) hn
    rw [pgs_ppages he, he] at hpg
    have HPG := Lib.hid hpg
    have HPR := Lib.hid hpr
    clear g1 he HO hpf hpg hpr
    go_wp2_with fail
    refine HPG.out.mono ?_
    rintro e w2 ⟨rfl, g2⟩
    have G2 := Lib.hid g2
    clear g2
    go_wp2
    go_ret3
    exact ⟨gr_none G1.out G2.out, .inr ⟨HE.out, pf, rfl, HPF.out, HPR.out.ext G2.out⟩⟩
def pagesN (fr : List Fr) (n : List UInt8) (n0 : Int) : Int := fr.foldl (fun m f => if f.full && (f.dirty && f.n == n) then max m (f.k + 1) else m) n0
theorem pagesN_succ {fr : List Fr} {i : Nat} (hi : i < fr.length) (n : List UInt8) (n0 : Int) : pagesN (fr.take (i + 1)) n n0 = if fr[i].full && (fr[i].dirty && fr[i].n == n) then max (pagesN (fr.take i) n n0) (fr[i].k + 1) else pagesN (fr.take i) n n0 := by
  unfold pagesN
  rw [List.take_succ_eq_append_getElem hi, List.foldl_append]
  rfl
theorem pagesN_le {fr : List Fr} {n : List UInt8} {n0 m : Int} (h0 : n0 ≤ m) (h : ∀ f ∈ fr, f.k + 1 ≤ m) : n0 ≤ pagesN fr n n0 ∧ pagesN fr n n0 ≤ m := by
  unfold pagesN
  induction fr generalizing n0 with
  | nil => exact ⟨Int.le_refl _, h0⟩
  | cons f fr ih =>
    have h1 := h f (by simp)
    rw [List.foldl_cons]
    by_cases hc : (f.full && (f.dirty && f.n == n)) = true
    · rw [if_pos hc]
      have := ih (n0 := max n0 (f.k + 1)) (by omega) (fun x hx => h x (by simp [hx]))
      omega
    · rw [if_neg hc]
      exact ih h0 (fun x hx => h x (by simp [hx]))
set_option maxHeartbeats 4000000 in
theorem ppages_any (h : DI w B o d S c) (hp : PoR w B o d p g mb P nm) (hn : n.length ≤ 1000000000) :
    Calls Tryz.prog 20 #[.pointer (some ⟨p, 0, none⟩), .string ⟨n.toArray⟩] w (PagesO (S.pgs n) (pagesN P.fr n (S.pgs n).1) w) := by
  have HO := Lib.hid (onDisk_any h hp hn)
  have hz := (size_le h n).1
  have hpg : (S.pgs n).1 ≤ 65536 := by
    unfold Dk.pgs
    split
    · simp
    · split
      · simp
      · show (S.size n).1 / 256 ≤ 65536
        omega
  have HP := Lib.hid hp
  have hl := hp.lim.2.1
  obtain ⟨fr, hfr⟩ : ∃ fr, fr = P.fr := ⟨_, rfl⟩
  rw [← hfr] at hl ⊢
  have HFR := Lib.hid hfr
  clear h hp hz hfr
  go_enter Tryz.func20, Tryz.ntmps20
  go_wp2_with fail
  refine HO.out.mono ?_
  rintro e w1 ⟨g1, ⟨he, rfl⟩ | ⟨he, pf, rfl, hpf, hpr⟩⟩
  · have G1 := Lib.hid g1
    have HE := Lib.hid he
    have hne : (((S.pgs n).2 : Int) != 0) = true := by rw [bne_iff_ne]; omega
    clear g1 he HO
    go_wp2
    go_ret2
    exact ⟨G1.out, .inl ⟨HE.out, rfl⟩⟩
  · have G1 := Lib.hid g1
    have HE := Lib.hid he
    obtain ⟨s0, s1, -⟩ := (HP.out.ext g1).selfc
    have HF := Lib.hid (HP.out.ext g1).fr
    have HB := Lib.hid HP.out.bytes
    rw [← HFR.out] at s1 HF HB
    obtain ⟨n0, hn0⟩ : ∃ n0, n0 = (S.pgs n).1 := ⟨_, rfl⟩
    rw [← hn0] at hpg ⊢
    have HN0 := Lib.hid hn0
    clear g1 he HO hpf hpr HP hn0
    go_wp2
    go_loopw [7, 10, 28] (fun m _ i wr => ∃ k : Nat, k ≤ fr.length ∧ i = .int .i64 k ∧ m = .int .i64 (pagesN (fr.take k) n n0) ∧ w1.grownBy wr none) (fun _ _ i _ => fr.length - (intOf i).toNat)
    case atStart => exact ⟨0, by omega, rfl, rfl, gr_refl _ _⟩
    case round =>
      obtain ⟨k, hk, rfl, rfl, hg⟩ := hrel
      have HG := Lib.hid hg
      by_cases hlt : k < fr.length
      · have H1 := Lib.hid (pagesN_succ hlt n n0)
        have hle := pagesN_le (fr := fr.take k) (n := n) (n0 := n0) (m := 4611686018427387905) (by omega) (fun f hf => by have := (HB.out f (List.mem_of_mem_take hf)).len.2.2.2; omega)
        have hb := HB.out _ (List.getElem_mem hlt)
        obtain ⟨x, hx⟩ : ∃ x, x = fr[k] := ⟨_, rfl⟩
        rw [← hx] at H1 hb
        obtain ⟨c0, c1, c2, c3, c4, c5, c6⟩ := frame_cells (HF.out.ext hg) hlt hx.symm
        obtain ⟨Ab, cb, hbv⟩ := hb.rd.form
        rw [hbv] at c3
        have hkb := hb.len.2.2.2
        obtain ⟨xf, xn, xk, xb, xv, xp, xd, xu⟩ := x
        obtain ⟨m, hm⟩ : ∃ m, m = pagesN (fr.take k) n n0 := ⟨_, rfl⟩
        rw [← hm] at H1 hle ⊢
        simp only [] at H1 c0 c1 c2 c3 c4 c5 c6 hkb
        have hr1 : IntKind.i64.wrap (xk + 1) = xk + 1 := by rw [IntWalk.i64_in _ (by omega)]
        clear hm hx hb hbv hg
        cases xf
        · go_wp2
          go_roundw
          case rel => exact ⟨k + 1, by omega, by go_num, by rw [H1.out]; rfl, gr_none HG.out (gr_alloc _ _ _)⟩
          case measure => simp [intOf] <;> omega
        · cases xd
          · go_wp2
            go_roundw
            case rel => exact ⟨k + 1, by omega, by go_num, by rw [H1.out]; rfl, gr_none HG.out (gr_alloc _ _ _)⟩
            case measure => simp [intOf] <;> omega
          · by_cases hnm : xn = n
            · have b1 : (xn == n) = true := by simpa using hnm
              have q1 : Hid (pagesN (fr.take (k + 1)) n n0 = max m (xk + 1)) := by show _ = _; rw [H1.out, b1]; rfl
              clear hnm H1
              go_wp2
              go_roundw
              case rel => exact ⟨k + 1, by omega, by go_num, by rw [q1.out], gr_none HG.out (gr_alloc _ _ _)⟩
              case measure => simp [intOf] <;> omega
            · have b1 : (xn == n) = false := by simpa using hnm
              have q1 : Hid (pagesN (fr.take (k + 1)) n n0 = m) := by show _ = _; rw [H1.out, b1]; rfl
              clear hnm H1
              go_wp2
              go_roundw
              case rel => exact ⟨k + 1, by omega, by go_num, by rw [q1.out], gr_none HG.out (gr_alloc _ _ _)⟩
              case measure => simp [intOf] <;> omega
      · obtain rfl : k = fr.length := by omega
        rw [List.take_length]
        go_wp2
        go_ret2
        exact ⟨gr_none G1.out HG.out, .inr ⟨HE.out, by rw [HN0.out]; rfl⟩⟩
end
end Go.Proofs.YtkpmadahfmpeiaaGreat
