/-
  What is done with a file of pages and its disk, and what the document says of it: plain.
-/
import Derived.Test.YtipankjajdpiiaaGreatSk
import Derived.Test.YtipankjajdpiiaaGreatFs0
import Derived.Test.YtipankjajdpiiaaGreatLd
import Derived.Test.YtipankjajdpiiaaGreatBad2
import Derived.Test.YtipankjajdpiiaaGreatRu
namespace Go.Proofs.YtipankjajdpiiaaGreat
open Go.RowKit
set_option maxRecDepth 100000

def Dk.raw (S : Dk) (o : OpV) (X : Dk × Nat) : Prop :=
  if o.kind = 1 then X = S.remove o.name
  else if o.kind = 3 then X = S.write o.name o.off o.b
  else if o.kind = 4 then X = S.cut o.name o.off
  else if o.kind = 8 then X = S.setQuota o.n
  else if o.kind = 9 then X = S.arm o.n
  else if o.kind = 10 then (if S.dead = true then ∃ ls, LsIs S ls ∧ X = (S.lit (onT S o.keep ls ls.length), 0) else X = (S, 14))
  else if o.kind = 11 then X = S.flipA o.name o.off o.mask
  else X = (S, 0)
def RD.raw (S : RD) (o : OpV) : RD × Nat :=
  if o.kind = 1 then S.remove o.name
  else if o.kind = 3 then S.write o.name o.off o.b
  else if o.kind = 4 then S.cut o.name o.off
  else if o.kind = 8 then S.setQuota o.n
  else if o.kind = 9 then S.arm o.n
  else if o.kind = 10 then (if S.off = true then (S.on o.keep, 0) else (S, 14))
  else if o.kind = 11 then S.flipA o.name o.off o.mask
  else (S, 0)
def tE (e : Nat) : Tl := ⟨[], [], 0, [], e⟩
/-- what is done, with the program's disk: the disk, the file's name, what is told. -/
def Dk.fdo (S : Dk) (f : Option (List UInt8)) (o : OpF) (X : Dk × Option (List UInt8) × Tl) : Prop :=
  if o.kind = 0 then X = ((S.create o.name).1, if (S.create o.name).2 = 0 then some o.name else none, ⟨[], [], 0, if (S.create o.name).2 = 0 then o.name else [], (S.create o.name).2⟩)
  else if o.kind = 1 then X = (S, if (S.pgs o.name).2 = 0 then some o.name else none, ⟨[], [], 0, if (S.pgs o.name).2 = 0 then o.name else [], (S.pgs o.name).2⟩)
  else if o.kind = 2 then X = (S, f, match f with | none => tE 2 | some n => ⟨(S.pread n o.k).1, [], 0, [], (S.pread n o.k).2⟩)
  else if o.kind = 3 then X = (match f with | none => (S, f, ⟨o.b, [], 0, [], 2⟩) | some n => ((S.pwrite n o.k o.b).1, f, ⟨o.b, [], 0, [], (S.pwrite n o.k o.b).2⟩))
  else if o.kind = 4 then X = (match f with | none => (S, f, tE 2) | some n => ((S.sync n).1, f, tE (S.sync n).2))
  else if o.kind = 5 then X = (S, f, match f with | none => tE 2 | some n => ⟨[], [], (S.ppages n).1, [], (S.ppages n).2⟩)
  else if o.kind = 6 then X = (S, f, ⟨[], if (S.pgs o.name).2 = 0 then (badL S o.name (S.pgs o.name).1).map Int.ofNat else [], 0, [], (S.pgs o.name).2⟩)
  else if o.kind = 7 then ∃ Y, S.raw o.d Y ∧ X = (Y.1, f, tE Y.2)
  else X = (S, f, tE 0)
def RD.fdo (S : RD) (f : Option (List UInt8)) (o : OpF) : RD × Option (List UInt8) × Tl :=
  if o.kind = 0 then ((S.create o.name).1, if (S.create o.name).2 = 0 then some o.name else none, ⟨[], [], 0, if (S.create o.name).2 = 0 then o.name else [], (S.create o.name).2⟩)
  else if o.kind = 1 then (S, if (S.pgs o.name).2 = 0 then some o.name else none, ⟨[], [], 0, if (S.pgs o.name).2 = 0 then o.name else [], (S.pgs o.name).2⟩)
  else if o.kind = 2 then (S, f, match f with | none => tE 2 | some n => ⟨(S.pread n o.k).1, [], 0, [], (S.pread n o.k).2⟩)
  else if o.kind = 3 then (match f with | none => (S, f, ⟨o.b, [], 0, [], 2⟩) | some n => ((S.pwrite n o.k o.b).1, f, ⟨o.b, [], 0, [], (S.pwrite n o.k o.b).2⟩))
  else if o.kind = 4 then (match f with | none => (S, f, tE 2) | some n => ((S.sync n).1, f, tE (S.sync n).2))
  else if o.kind = 5 then (S, f, match f with | none => tE 2 | some n => ⟨[], [], (S.ppages n).1, [], (S.ppages n).2⟩)
  else if o.kind = 6 then (S, f, ⟨[], if (S.pgs o.name).2 = 0 then (S.badL o.name (S.pgs o.name).1).map Int.ofNat else [], 0, [], (S.pgs o.name).2⟩)
  else if o.kind = 7 then ((S.raw o.d).1, f, tE (S.raw o.d).2)
  else (S, f, tE 0)
section
variable {S : Dk} {R : RD} {a b : Nat}
theorem sim_raw (h : Sim S R) (hs : Sm S a b) (hok : ∀ s k, S.loose s k = true → okK s k) {o : OpV} {X : Dk × Nat} (hX : S.raw o X) :
    (R.raw o).2 = X.2 ∧ Sim X.1 (R.raw o).1 ∧ Sm X.1 a (b + o.b.length) := by
  have hs' := hs.mono (a' := a) (b' := b + o.b.length) (by omega) (by omega)
  unfold Dk.raw at hX
  unfold RD.raw
  split at hX
  · next e =>
    rw [if_pos e, hX]
    obtain ⟨h1, h2⟩ := sim_remove h o.name
    exact ⟨h1, h2, (hs.remove o.name).mono (Nat.le_refl _) (by omega)⟩
  · next e =>
    rw [if_neg e]
    split at hX
    · next e =>
      rw [if_pos e, hX]
      obtain ⟨h1, h2⟩ := sim_write h o.name o.off o.b hs
      exact ⟨h1, h2, hs.write o.name o.off o.b⟩
    · next e =>
      rw [if_neg e]
      split at hX
      · next e =>
        rw [if_pos e, hX]
        obtain ⟨h1, h2⟩ := sim_cut h o.name o.off hs
        exact ⟨h1, h2, (hs.cut o.name o.off).mono (Nat.le_refl _) (by omega)⟩
      · next e =>
        rw [if_neg e]
        split at hX
        · next e =>
          rw [if_pos e, hX]
          obtain ⟨h1, h2⟩ := sim_quota h o.n
          exact ⟨h1, h2, (hs.setQuota o.n).mono (Nat.le_refl _) (by omega)⟩
        · next e =>
          rw [if_neg e]
          split at hX
          · next e =>
            rw [if_pos e, hX]
            obtain ⟨h1, h2⟩ := sim_arm h o.n
            exact ⟨h1, h2, (hs.arm o.n).mono (Nat.le_refl _) (by omega)⟩
          · next e =>
            rw [if_neg e]
            split at hX
            · next e =>
              rw [if_pos e, h.off]
              split at hX
              · next hd =>
                rw [if_pos hd]
                obtain ⟨ls, hls, rfl⟩ := hX
                exact ⟨rfl, sim_on h o.keep hls hok, (hs.lit _).mono (Nat.le_refl _) (by omega)⟩
              · next hd =>
                rw [if_neg hd, hX]
                exact ⟨rfl, h, hs'⟩
            · next e =>
              rw [if_neg e]
              split at hX
              · next e =>
                rw [if_pos e, hX]
                obtain ⟨h1, h2⟩ := sim_flipA h hs o.name o.off o.mask
                exact ⟨h1, h2, (hs.flipA o.name o.off o.mask).mono (Nat.le_refl _) (by omega)⟩
              · next e =>
                rw [if_neg e, hX]
                exact ⟨rfl, h, hs'⟩
theorem sim_pgs (h : Sim S R) (n : List UInt8) : R.pgs n = S.pgs n := by
  unfold RD.pgs Dk.pgs
  rw [sim_size h n]
theorem sim_ppages (h : Sim S R) (n : List UInt8) : R.ppages n = S.ppages n := by
  unfold RD.ppages Dk.ppages
  rw [sim_size h n]
theorem sim_pread (h : Sim S R) (n : List UInt8) (k : Int) : R.pread n k = S.pread n k := by
  unfold RD.pread Dk.pread
  rw [sim_size h n, sim_read h n (k * 256) 256]
  all_goals (cases pagO (S.read n (k * 256) 256).1 (crcS n) k.toNat <;> rfl)
theorem sim_badL (h : Sim S R) (n : List UInt8) (k : Nat) : R.badL n k = badL S n k := by
  unfold RD.badL badL
  congr 1
  funext i
  unfold RD.badB badB
  rw [sim_pread h n]
theorem sim_pwrite (h : Sim S R) (hs : Sm S a b) (n : List UInt8) (k : Int) (bs : List UInt8) : (R.pwrite n k bs).2 = (S.pwrite n k bs).2 ∧ Sim (S.pwrite n k bs).1 (R.pwrite n k bs).1 ∧ Sm (S.pwrite n k bs).1 a (b + 256) := by
  have hs' := hs.mono (a' := a) (b' := b + 256) (by omega) (by omega)
  unfold RD.pwrite Dk.pwrite
  rw [sim_size h n]
  split
  · exact ⟨rfl, h, hs'⟩
  · split
    · exact ⟨rfl, h, hs'⟩
    · next hb =>
      split
      · exact ⟨rfl, h, hs'⟩
      · split
        · exact ⟨rfl, h, hs'⟩
        · obtain ⟨h1, h2⟩ := sim_write h n (k * 256) (pagB (crcS n) k.toNat bs) hs
          have h3 := hs.write n (k * 256) (pagB (crcS n) k.toNat bs)
          rw [pagB_len (by omega)] at h3
          exact ⟨h1, h2, h3⟩
theorem sim_fdo (h : Sim S R) (hs : Sm S a b) (hok : ∀ s k, S.loose s k = true → okK s k) {f : Option (List UInt8)} {o : OpF} {X : Dk × Option (List UInt8) × Tl} (hX : S.fdo f o X) :
    (R.fdo f o).2 = X.2 ∧ Sim X.1 (R.fdo f o).1 ∧ Sm X.1 (a + 1) (b + 256 + o.d.b.length) := by
  have hs' := hs.mono (a' := a + 1) (b' := b + 256 + o.d.b.length) (by omega) (by omega)
  unfold Dk.fdo at hX
  unfold RD.fdo
  split at hX
  · next e =>
    rw [if_pos e, hX]
    obtain ⟨h1, h2⟩ := sim_create h o.name hs
    refine ⟨?_, h2, (hs.create o.name).mono (Nat.le_refl _) (by omega)⟩
    show (_, _) = (_, _)
    rw [h1]
  · next e =>
    rw [if_neg e]
    split at hX
    · next e =>
      rw [if_pos e, hX]
      refine ⟨?_, h, hs'⟩
      show (_, _) = (_, _)
      rw [sim_pgs h]
    · next e =>
      rw [if_neg e]
      split at hX
      · next e =>
        rw [if_pos e, hX]
        refine ⟨?_, h, hs'⟩
        cases f with
        | none => rfl
        | some n =>
          show (_, _) = (_, _)
          dsimp only
          rw [sim_pread h]
      · next e =>
        rw [if_neg e]
        split at hX
        · next e =>
          rw [if_pos e, hX]
          cases f with
          | none => exact ⟨rfl, h, hs'⟩
          | some n =>
            obtain ⟨h1, h2, h3⟩ := sim_pwrite h hs n o.k o.b
            exact ⟨by show (_, _) = (_, _); rw [h1], h2, h3.mono (by omega) (by omega)⟩
        · next e =>
          rw [if_neg e]
          split at hX
          · next e =>
            rw [if_pos e, hX]
            cases f with
            | none => exact ⟨rfl, h, hs'⟩
            | some n =>
              obtain ⟨h1, h2⟩ := sim_sync h n hs
              exact ⟨by show (_, _) = (_, _); rw [h1], h2, (hs.sync n).mono (by omega) (by omega)⟩
          · next e =>
            rw [if_neg e]
            split at hX
            · next e =>
              rw [if_pos e, hX]
              refine ⟨?_, h, hs'⟩
              cases f with
              | none => rfl
              | some n =>
                show (_, _) = (_, _)
                dsimp only
                rw [sim_ppages h]
            · next e =>
              rw [if_neg e]
              split at hX
              · next e =>
                rw [if_pos e, hX]
                refine ⟨?_, h, hs'⟩
                show (_, _) = (_, _)
                rw [sim_pgs h, sim_badL h]
              · next e =>
                rw [if_neg e]
                split at hX
                · next e =>
                  rw [if_pos e]
                  obtain ⟨Y, hY, rfl⟩ := hX
                  obtain ⟨h1, h2, h3⟩ := sim_raw h hs hok hY
                  exact ⟨by show (_, _) = (_, _); rw [h1], h2, h3.mono (by omega) (by omega)⟩
                · next e =>
                  rw [if_neg e, hX]
                  exact ⟨rfl, h, hs'⟩
end
end Go.Proofs.YtipankjajdpiiaaGreat

/- raw of law08, kind by kind (printed by wip tools gen_raw.py). -/
namespace Go.Proofs.YtipankjajdpiiaaGreat
open Go.RowKit Go.Maps
set_option maxRecDepth 100000
set_option maxHeartbeats 2000000

theorem own_empty3I (w : World) (x : Obj) (B : Nat) (hB : B ≤ w.heap.size + 1) : OwnI ((w.alloc x).alloc (.cells #[] 3)) B (.slice (some ⟨w.heap.size + 1, 0, none⟩) 0 0) [] := by
  have := own_emptyI (w.alloc x) B (by rw [World.size_alloc]; exact hB)
  rw [World.size_alloc] at this
  exact this
def RawO (w0 : World) (d : Nat) (o : Own1) (w : World) (X : Dk × Nat) (e : Ending) (w' : World) : Prop := e = .returned (.int .i64 X.2) ∧ DP w0 d o X.1 w w'
def RawOn (w0 : World) (d : Nat) (o : Own1) (w : World) (S : Dk) (keep : List Int) (e : Ending) (w' : World) : Prop := ∃ X, (if S.dead = true then ∃ ls, LsIs S ls ∧ X = (S.lit (onT S keep ls ls.length), 0) else X = (S, 14)) ∧ RawO w0 d o w X e w'
theorem DA.removeN {w0 w : World} {d : Nat} {o : Own1} {S : Dk} (h : DA w0 d o S w) (n : List UInt8) (hn : n.length ≤ 1000000000) :
    Calls Tryz.prog 96 #[.pointer (some ⟨d, 0, none⟩), .string ⟨n.toArray⟩] w fun e w' => e = .returned (.int .i64 (S.remove n).2) ∧ DP w0 d o (S.remove n).1 w w' := by
  obtain ⟨c, h1⟩ := h.di
  exact (remove_any h1 n hn).mono fun _ _ ⟨e, k⟩ => ⟨e, h.out k⟩
theorem DA.flipN {w0 w : World} {d : Nat} {o : Own1} {S : Dk} (h : DA w0 d o S w) (n : List UInt8) (hn : n.length ≤ 1000000000) (k : Int) (m : UInt8) (hk : -9223372036854775808 ≤ k ∧ k ≤ 9223372036854775807) :
    Calls Tryz.prog 29 #[.pointer (some ⟨d, 0, none⟩), .string ⟨n.toArray⟩, .int .i64 k, .int .u8 m.toNat] w fun e w' => e = .returned (.int .i64 (S.flipA n k m).2) ∧ DP w0 d o (S.flipA n k m).1 w w' := by
  obtain ⟨c, h1⟩ := h.di
  exact (flipA_any h1 n hn m hk).mono fun _ _ ⟨e, k⟩ => ⟨e, h.out k⟩
section
variable {w0 w w' W : World} {d r : Nat} {S : Dk} {R : RD} {O o : Own1} {Ad Ae : Option Addr} {nd cd ne ce : Nat} {nm : List UInt8}
theorem raw_1 (h : DA w0 d o S w) (hn : nm.length ≤ 1000000000) (into : List UInt8) (off n : Int) (m : UInt8)  :
    Calls Tryz.prog 52 #[.pointer (some ⟨d, 0, none⟩), .agg #[.int .i64 1, .string ⟨nm.toArray⟩, .string ⟨into.toArray⟩, .int .i64 off, .int .i64 n, .slice Ad nd cd, .int .u8 m.toNat, .slice Ae ne ce]] w (RawO w0 d o w (S.remove nm)) := by
  obtain ⟨W, hW⟩ : ∃ W, W = w.alloc (.cells #[.int .i64 1, .string ⟨nm.toArray⟩, .string ⟨into.toArray⟩, .int .i64 off, .int .i64 n, .slice Ad nd cd, .int .u8 m.toNat, .slice Ae ne ce] 61) := ⟨_, rfl⟩
  have hg : w.grownBy W none := by rw [hW]; exact gr_alloc _ _ none
  have hb : Blk W w.heap.size 61 #[.int .i64 1, .string ⟨nm.toArray⟩, .string ⟨into.toArray⟩, .int .i64 off, .int .i64 n, .slice Ad nd cd, .int .u8 m.toNat, .slice Ae ne ce] := by rw [hW]; exact Blk.new w _ _
  have hbc := hb.cell
  rw [hW] at hbc
  have HW : Hid (w.alloc (.cells #[.int .i64 1, .string ⟨nm.toArray⟩, .string ⟨into.toArray⟩, .int .i64 off, .int .i64 n, .slice Ad nd cd, .int .u8 m.toNat, .slice Ae ne ce] 61) = W) := hW.symm
  have HA := Lib.hid (DA.removeN (h.ext hg) nm hn)
  have HGO : Hid (Ch o w o W) := Ch.ext hg
  obtain ⟨Y, hY⟩ : ∃ Y, Y = (S.remove nm) := ⟨_, rfl⟩
  rw [← hY] at HA ⊢
  clear h hb hW hg hY hn
  go_enter Tryz.func52, Tryz.ntmps52
  go_wp2_with fail
  rw [HW.out]
  refine HA.out.mono ?_
  rintro e w1 ⟨rfl, o1, k1, k2⟩
  have K1 := Lib.hid k1
  have K2 : Hid (Ch o w o1 w1) := HGO.out.trans k2
  clear k1 k2
  go_wp2_with fail
  go_ret
  exact ⟨rfl, o1, K1.out, K2.out⟩
theorem raw_3 (h : DA w0 d o S w) (hfs : S.fs.length ≤ 1000000) (hnl : S.nl ≤ 1000000000) (hn : nm.length ≤ 1000000000) (into : List UInt8) (off n : Int) (m : UInt8) (hoff : -9223372036854775808 ≤ off ∧ off ≤ 9223372036854775807) {bs : List UInt8} (hnd : nd = bs.length) (hb0 : RdB w (.slice Ad bs.length cd) bs) (hbl : bs.length ≤ 100000000) :
    Calls Tryz.prog 52 #[.pointer (some ⟨d, 0, none⟩), .agg #[.int .i64 3, .string ⟨nm.toArray⟩, .string ⟨into.toArray⟩, .int .i64 off, .int .i64 n, .slice Ad nd cd, .int .u8 m.toNat, .slice Ae ne ce]] w (RawO w0 d o w (S.write nm off bs)) := by
  obtain ⟨W, hW⟩ : ∃ W, W = w.alloc (.cells #[.int .i64 3, .string ⟨nm.toArray⟩, .string ⟨into.toArray⟩, .int .i64 off, .int .i64 n, .slice Ad nd cd, .int .u8 m.toNat, .slice Ae ne ce] 61) := ⟨_, rfl⟩
  have hg : w.grownBy W none := by rw [hW]; exact gr_alloc _ _ none
  have hb : Blk W w.heap.size 61 #[.int .i64 3, .string ⟨nm.toArray⟩, .string ⟨into.toArray⟩, .int .i64 off, .int .i64 n, .slice Ad nd cd, .int .u8 m.toNat, .slice Ae ne ce] := by rw [hW]; exact Blk.new w _ _
  have hbc := hb.cell
  rw [hW] at hbc
  have HW : Hid (w.alloc (.cells #[.int .i64 3, .string ⟨nm.toArray⟩, .string ⟨into.toArray⟩, .int .i64 off, .int .i64 n, .slice Ad nd cd, .int .u8 m.toNat, .slice Ae ne ce] 61) = W) := hW.symm
  have HG := Lib.hid hg
  have hfr : o w.heap.size = none := h.fresh (Nat.le_refl _)
  have HCP : Hid (∀ wx, w.grownBy wx none → Calls Tryz.prog 28 #[.slice Ad nd cd] wx fun e w' => ∃ v', e = .returned v' ∧ OwnB w' wx.heap.size v' bs ∧ wx.grownBy w' none) := fun wx g => by rw [hnd]; exact copyBytes_any _ _ wx (hb0.ext g) (by omega)
  have HWR : Hid (∀ (wa wx : World) (v3 : Value), w.grownBy wa none → wa.grownBy wx none → OwnB wx wa.heap.size v3 bs → Calls Tryz.prog 27 #[.pointer (some ⟨d, 0, none⟩), .string ⟨nm.toArray⟩, .int .i64 off, v3] wx fun e w' => e = .returned (.int .i64 (S.write nm off bs).2) ∧ DP w0 d o (S.write nm off bs).1 wx w') := fun wa wx v3 g1 g2 ho => (h.ext g1).write g2 nm hn off hoff ho (by omega) hfs hnl
  have HBOX := Lib.hid hb
  have HD := Lib.hid h
  have HFR := Lib.hid hfr
  obtain ⟨Y, hY⟩ : ∃ Y, Y = S.write nm off bs := ⟨_, rfl⟩
  rw [← hY] at HWR ⊢
  clear h hb hW hg hfr hY hb0 hnd hn
  go_enter Tryz.func52, Tryz.ntmps52
  go_wp2_with fail
  rw [HW.out]
  have b1 := HBOX.out.cell 1
  have b3 := HBOX.out.cell 3
  have b5 := HBOX.out.cell 5
  go_region_held3 (fun w' => w'.cell? ⟨w.heap.size, 1, none⟩ = some (.string ⟨nm.toArray⟩) ∧ w'.cell? ⟨w.heap.size, 3, none⟩ = some (.int .i64 off) ∧ w'.cell? ⟨w.heap.size, 5, none⟩ = some (.slice Ad nd cd)) (first | exact k4 | exact k3 | exact ⟨b1, b3, b5⟩ | go_keep) (first
    | (go_at_call 28; refine (HCP.out _ (gr_none HG.out (by first | exact gr_refl _ _ | exact gr_drew _ none))).mono ?_; rintro e w3 ⟨v3, rfl, o3, g3⟩; have g30 : W.grownBy w3 none := gr_none (by first | exact gr_refl _ _ | exact gr_drew _ none) g3; obtain ⟨A3, c3, rfl⟩ := RdB.form (OwnB.rd o3); have k3 := And.intro ((HBOX.out.ext g30).cell 1) (And.intro ((HBOX.out.ext g30).cell 3) ((HBOX.out.ext g30).cell 5)))
    | (go_at_call 27; refine (HWR.out W w3 _ HG.out g30 (Own.mono o3 (by first | exact Nat.le_refl _ | exact (gr_drew _ none).size))).mono ?_; rintro e w4 ⟨rfl, k9⟩; have kc : ∃ o', Ch o w3 o' w4 := ⟨_, k9.choose_spec.2⟩; have kb := kc.choose_spec.blk (HBOX.out.ext g30) HFR.out; have k4 := And.intro (kb.cell 1) (And.intro (kb.cell 3) (kb.cell 5))))
  all_goals
    have hfin : DP w0 d o Y.1 w w4 := by
      obtain ⟨o', q1, q2⟩ := k9
      exact ⟨o', q1, (Ch.ext (gr_none HG.out g30)).trans q2⟩
    have HFIN := Lib.hid hfin
    clear k3 k4 k9 kc kb hfin o3 g3 g30 b1 b3 b5
    go_wp2_with fail
    go_ret
    exact ⟨rfl, HFIN.out⟩
theorem raw_4 (h : DA w0 d o S w) (hn : nm.length ≤ 1000000000) (into : List UInt8) (off n : Int) (m : UInt8) (hoff : -9223372036854775808 ≤ off ∧ off ≤ 9223372036854775807) :
    Calls Tryz.prog 52 #[.pointer (some ⟨d, 0, none⟩), .agg #[.int .i64 4, .string ⟨nm.toArray⟩, .string ⟨into.toArray⟩, .int .i64 off, .int .i64 n, .slice Ad nd cd, .int .u8 m.toNat, .slice Ae ne ce]] w (RawO w0 d o w (S.cut nm off)) := by
  obtain ⟨W, hW⟩ : ∃ W, W = w.alloc (.cells #[.int .i64 4, .string ⟨nm.toArray⟩, .string ⟨into.toArray⟩, .int .i64 off, .int .i64 n, .slice Ad nd cd, .int .u8 m.toNat, .slice Ae ne ce] 61) := ⟨_, rfl⟩
  have hg : w.grownBy W none := by rw [hW]; exact gr_alloc _ _ none
  have hb : Blk W w.heap.size 61 #[.int .i64 4, .string ⟨nm.toArray⟩, .string ⟨into.toArray⟩, .int .i64 off, .int .i64 n, .slice Ad nd cd, .int .u8 m.toNat, .slice Ae ne ce] := by rw [hW]; exact Blk.new w _ _
  have hbc := hb.cell
  rw [hW] at hbc
  have HW : Hid (w.alloc (.cells #[.int .i64 4, .string ⟨nm.toArray⟩, .string ⟨into.toArray⟩, .int .i64 off, .int .i64 n, .slice Ad nd cd, .int .u8 m.toNat, .slice Ae ne ce] 61) = W) := hW.symm
  have HA := Lib.hid ((h.ext hg).cut nm hn off hoff)
  have HGO : Hid (Ch o w o W) := Ch.ext hg
  obtain ⟨Y, hY⟩ : ∃ Y, Y = (S.cut nm off) := ⟨_, rfl⟩
  rw [← hY] at HA ⊢
  clear h hb hW hg hY hn
  go_enter Tryz.func52, Tryz.ntmps52
  go_wp2_with fail
  rw [HW.out]
  refine HA.out.mono ?_
  rintro e w1 ⟨rfl, o1, k1, k2⟩
  have K1 := Lib.hid k1
  have K2 : Hid (Ch o w o1 w1) := HGO.out.trans k2
  clear k1 k2
  go_wp2_with fail
  go_ret
  exact ⟨rfl, o1, K1.out, K2.out⟩
theorem raw_8 (h : DA w0 d o S w) (_hn : nm.length ≤ 1000000000) (into : List UInt8) (off n : Int) (m : UInt8) (hq : -9223372036854775808 ≤ n ∧ n ≤ 9223372036854775807) :
    Calls Tryz.prog 52 #[.pointer (some ⟨d, 0, none⟩), .agg #[.int .i64 8, .string ⟨nm.toArray⟩, .string ⟨into.toArray⟩, .int .i64 off, .int .i64 n, .slice Ad nd cd, .int .u8 m.toNat, .slice Ae ne ce]] w (RawO w0 d o w (S.setQuota n)) := by
  obtain ⟨W, hW⟩ : ∃ W, W = w.alloc (.cells #[.int .i64 8, .string ⟨nm.toArray⟩, .string ⟨into.toArray⟩, .int .i64 off, .int .i64 n, .slice Ad nd cd, .int .u8 m.toNat, .slice Ae ne ce] 61) := ⟨_, rfl⟩
  have hg : w.grownBy W none := by rw [hW]; exact gr_alloc _ _ none
  have hb : Blk W w.heap.size 61 #[.int .i64 8, .string ⟨nm.toArray⟩, .string ⟨into.toArray⟩, .int .i64 off, .int .i64 n, .slice Ad nd cd, .int .u8 m.toNat, .slice Ae ne ce] := by rw [hW]; exact Blk.new w _ _
  have hbc := hb.cell
  rw [hW] at hbc
  have HW : Hid (w.alloc (.cells #[.int .i64 8, .string ⟨nm.toArray⟩, .string ⟨into.toArray⟩, .int .i64 off, .int .i64 n, .slice Ad nd cd, .int .u8 m.toNat, .slice Ae ne ce] 61) = W) := hW.symm
  have HA := Lib.hid ((h.ext hg).quota n hq)
  have HGO : Hid (Ch o w o W) := Ch.ext hg
  obtain ⟨Y, hY⟩ : ∃ Y, Y = (S.setQuota n) := ⟨_, rfl⟩
  rw [← hY] at HA ⊢
  clear h hb hW hg hY
  go_enter Tryz.func52, Tryz.ntmps52
  go_wp2_with fail
  rw [HW.out]
  refine HA.out.mono ?_
  rintro e w1 ⟨rfl, o1, k1, k2⟩
  have K1 := Lib.hid k1
  have K2 : Hid (Ch o w o1 w1) := HGO.out.trans k2
  clear k1 k2
  go_wp2_with fail
  go_ret
  exact ⟨rfl, o1, K1.out, K2.out⟩
theorem raw_9 (h : DA w0 d o S w) (_hn : nm.length ≤ 1000000000) (into : List UInt8) (off n : Int) (m : UInt8) (hq : -9223372036854775808 ≤ n ∧ n ≤ 9223372036854775807) :
    Calls Tryz.prog 52 #[.pointer (some ⟨d, 0, none⟩), .agg #[.int .i64 9, .string ⟨nm.toArray⟩, .string ⟨into.toArray⟩, .int .i64 off, .int .i64 n, .slice Ad nd cd, .int .u8 m.toNat, .slice Ae ne ce]] w (RawO w0 d o w (S.arm n)) := by
  obtain ⟨W, hW⟩ : ∃ W, W = w.alloc (.cells #[.int .i64 9, .string ⟨nm.toArray⟩, .string ⟨into.toArray⟩, .int .i64 off, .int .i64 n, .slice Ad nd cd, .int .u8 m.toNat, .slice Ae ne ce] 61) := ⟨_, rfl⟩
  have hg : w.grownBy W none := by rw [hW]; exact gr_alloc _ _ none
  have hb : Blk W w.heap.size 61 #[.int .i64 9, .string ⟨nm.toArray⟩, .string ⟨into.toArray⟩, .int .i64 off, .int .i64 n, .slice Ad nd cd, .int .u8 m.toNat, .slice Ae ne ce] := by rw [hW]; exact Blk.new w _ _
  have hbc := hb.cell
  rw [hW] at hbc
  have HW : Hid (w.alloc (.cells #[.int .i64 9, .string ⟨nm.toArray⟩, .string ⟨into.toArray⟩, .int .i64 off, .int .i64 n, .slice Ad nd cd, .int .u8 m.toNat, .slice Ae ne ce] 61) = W) := hW.symm
  have HA := Lib.hid ((h.ext hg).arm n hq)
  have HGO : Hid (Ch o w o W) := Ch.ext hg
  obtain ⟨Y, hY⟩ : ∃ Y, Y = (S.arm n) := ⟨_, rfl⟩
  rw [← hY] at HA ⊢
  clear h hb hW hg hY
  go_enter Tryz.func52, Tryz.ntmps52
  go_wp2_with fail
  rw [HW.out]
  refine HA.out.mono ?_
  rintro e w1 ⟨rfl, o1, k1, k2⟩
  have K1 := Lib.hid k1
  have K2 : Hid (Ch o w o1 w1) := HGO.out.trans k2
  clear k1 k2
  go_wp2_with fail
  go_ret
  exact ⟨rfl, o1, K1.out, K2.out⟩
theorem raw_10 (h : DA w0 d o S w) {a b : Nat} (hs : Sm S a b) (ha : a ≤ 1000000) (hb1 : b ≤ 1000000000) (into : List UInt8) (off n : Int) (m : UInt8) {keep : List Int} (hne : ne = keep.length) (hk : RdI w (.slice Ae keep.length ce) keep) (hkl : keep.length ≤ 100000000) :
    Calls Tryz.prog 52 #[.pointer (some ⟨d, 0, none⟩), .agg #[.int .i64 10, .string ⟨nm.toArray⟩, .string ⟨into.toArray⟩, .int .i64 off, .int .i64 n, .slice Ad nd cd, .int .u8 m.toNat, .slice Ae ne ce]] w (RawOn w0 d o w S keep) := by
  obtain ⟨W, hW⟩ : ∃ W, W = w.alloc (.cells #[.int .i64 10, .string ⟨nm.toArray⟩, .string ⟨into.toArray⟩, .int .i64 off, .int .i64 n, .slice Ad nd cd, .int .u8 m.toNat, .slice Ae ne ce] 61) := ⟨_, rfl⟩
  have hg : w.grownBy W none := by rw [hW]; exact gr_alloc _ _ none
  have hb : Blk W w.heap.size 61 #[.int .i64 10, .string ⟨nm.toArray⟩, .string ⟨into.toArray⟩, .int .i64 off, .int .i64 n, .slice Ad nd cd, .int .u8 m.toNat, .slice Ae ne ce] := by rw [hW]; exact Blk.new w _ _
  have hbc := hb.cell
  rw [hW] at hbc
  have HS3 : Hid (W.heap.size = w.heap.size + 1) := by show _ = _; rw [hW, World.size_alloc]
  have HW : Hid (W = w.alloc (.cells #[.int .i64 10, .string ⟨nm.toArray⟩, .string ⟨into.toArray⟩, .int .i64 off, .int .i64 n, .slice Ad nd cd, .int .u8 m.toNat, .slice Ae ne ce] 61)) := hW
  have HG := Lib.hid hg
  have HB2 : Hid (Blk (W.alloc (.cells #[] 3)) w.heap.size 61 #[.int .i64 10, .string ⟨nm.toArray⟩, .string ⟨into.toArray⟩, .int .i64 off, .int .i64 n, .slice Ad nd cd, .int .u8 m.toNat, .slice Ae ne ce]) := hb.ext (gr_alloc _ _ none)
  have hb2c := HB2.out.cell
  rw [hW] at hb2c
  rw [← hne] at hk
  have HK := Lib.hid hk
  have HH := Lib.hid h
  have HSM := Lib.hid hs
  have HNK := Lib.hid hne
  clear h hb hW hg hk hs hne HB2
  go_enter Tryz.func52, Tryz.ntmps52
  go_wp2_with (at_builtin; refine wp_appI (l := []) (m := keep) rfl (.tmp 47) (.tmp 49) rfl rfl (own_empty3I w _ (w.heap.size + 1) (Nat.le_refl _)) rfl (HK.out.ext (gr_none (gr_alloc _ _ none) (gr_alloc _ _ none))) (by rw [← HNK.out]; show 0 + ne ≤ _; rw [HNK.out]; omega) (by rw [World.size_alloc, World.size_alloc]; omega) ?_; rintro v5 w5 o5 g5 -; obtain ⟨A5, c5, ev5⟩ := RdI.form (Own.rd o5); rw [List.nil_append, ← HNK.out] at ev5; subst ev5; rw [List.nil_append] at o5; rw [← HW.out] at g5; have G5 : Hid (w.grownBy w5 none) := gr_none HG.out (gr_trans (gr_alloc _ _ none) g5 (.inr fun q e => by cases e; exact Nat.le_of_eq HS3.out)); have O5 := Lib.hid o5; clear o5 g5)
  have hda := HH.out.ext G5.out
  by_cases hd : S.dead = true
  · have HO := Lib.hid (DA.on hda HSM.out.li (by have := HSM.out.nl; omega) (by have := HSM.out.fl; omega) hd (kv := .slice A5 ne c5) (keep := keep) (Own.rd O5.out) (by omega))
    clear hda
    refine HO.out.mono ?_
    rintro e w6 ⟨rfl, ls, hls, o1, k1, k2⟩
    have K1 := Lib.hid k1
    have K2 : Hid (Ch o w o1 w6) := (Ch.ext G5.out).trans k2
    have HL : Hid (LsIs S ls) := hls
    clear k1 k2 hls
    go_wp2_with fail
    go_ret
    exact ⟨_, by rw [if_pos hd]; exact ⟨ls, HL.out, rfl⟩, rfl, o1, K1.out, K2.out⟩
  · have hd0 : S.dead = false := by simpa using hd
    obtain ⟨c, hc⟩ := hda.di
    have HO := Lib.hid (on_alive hc hd0 (.slice A5 ne c5))
    clear hda hc hd0
    refine HO.out.mono ?_
    rintro e w6 ⟨rfl, rfl⟩
    go_wp2_with fail
    go_ret
    exact ⟨(S, 14), by rw [if_neg hd], rfl, o, HH.out.ext G5.out, Ch.ext G5.out⟩
theorem raw_11 (h : DA w0 d o S w) (hn : nm.length ≤ 1000000000) (into : List UInt8) (off n : Int) (m : UInt8) (hoff : -9223372036854775808 ≤ off ∧ off ≤ 9223372036854775807) :
    Calls Tryz.prog 52 #[.pointer (some ⟨d, 0, none⟩), .agg #[.int .i64 11, .string ⟨nm.toArray⟩, .string ⟨into.toArray⟩, .int .i64 off, .int .i64 n, .slice Ad nd cd, .int .u8 m.toNat, .slice Ae ne ce]] w (RawO w0 d o w (S.flipA nm off m)) := by
  obtain ⟨W, hW⟩ : ∃ W, W = w.alloc (.cells #[.int .i64 11, .string ⟨nm.toArray⟩, .string ⟨into.toArray⟩, .int .i64 off, .int .i64 n, .slice Ad nd cd, .int .u8 m.toNat, .slice Ae ne ce] 61) := ⟨_, rfl⟩
  have hg : w.grownBy W none := by rw [hW]; exact gr_alloc _ _ none
  have hb : Blk W w.heap.size 61 #[.int .i64 11, .string ⟨nm.toArray⟩, .string ⟨into.toArray⟩, .int .i64 off, .int .i64 n, .slice Ad nd cd, .int .u8 m.toNat, .slice Ae ne ce] := by rw [hW]; exact Blk.new w _ _
  have hbc := hb.cell
  rw [hW] at hbc
  have HW : Hid (w.alloc (.cells #[.int .i64 11, .string ⟨nm.toArray⟩, .string ⟨into.toArray⟩, .int .i64 off, .int .i64 n, .slice Ad nd cd, .int .u8 m.toNat, .slice Ae ne ce] 61) = W) := hW.symm
  have HA := Lib.hid (DA.flipN (h.ext hg) nm hn off m hoff)
  have HGO : Hid (Ch o w o W) := Ch.ext hg
  obtain ⟨Y, hY⟩ : ∃ Y, Y = (S.flipA nm off m) := ⟨_, rfl⟩
  rw [← hY] at HA ⊢
  clear h hb hW hg hY hn
  go_enter Tryz.func52, Tryz.ntmps52
  go_wp2_with fail
  rw [HW.out]
  refine HA.out.mono ?_
  rintro e w1 ⟨rfl, o1, k1, k2⟩
  have K1 := Lib.hid k1
  have K2 : Hid (Ch o w o1 w1) := HGO.out.trans k2
  clear k1 k2
  go_wp2_with fail
  go_ret
  exact ⟨rfl, o1, K1.out, K2.out⟩
theorem raw_other (h : DA w0 d o S w) {kd : Int} (hkd : ¬ (kd = 1 ∨ kd = 3 ∨ kd = 4 ∨ kd = 8 ∨ kd = 9 ∨ kd = 10 ∨ kd = 11)) (into : List UInt8) (off n : Int) (m : UInt8) :
    Calls Tryz.prog 52 #[.pointer (some ⟨d, 0, none⟩), .agg #[.int .i64 kd, .string ⟨nm.toArray⟩, .string ⟨into.toArray⟩, .int .i64 off, .int .i64 n, .slice Ad nd cd, .int .u8 m.toNat, .slice Ae ne ce]] w (RawO w0 d o w (S, 0)) := by
  obtain ⟨W, hW⟩ : ∃ W, W = w.alloc (.cells #[.int .i64 kd, .string ⟨nm.toArray⟩, .string ⟨into.toArray⟩, .int .i64 off, .int .i64 n, .slice Ad nd cd, .int .u8 m.toNat, .slice Ae ne ce] 61) := ⟨_, rfl⟩
  have hg : w.grownBy W none := by rw [hW]; exact gr_alloc _ _ none
  have hb : Blk W w.heap.size 61 #[.int .i64 kd, .string ⟨nm.toArray⟩, .string ⟨into.toArray⟩, .int .i64 off, .int .i64 n, .slice Ad nd cd, .int .u8 m.toNat, .slice Ae ne ce] := by rw [hW]; exact Blk.new w _ _
  have hbc := hb.cell
  rw [hW] at hbc
  have HW : Hid (w.alloc (.cells #[.int .i64 kd, .string ⟨nm.toArray⟩, .string ⟨into.toArray⟩, .int .i64 off, .int .i64 n, .slice Ad nd cd, .int .u8 m.toNat, .slice Ae ne ce] 61) = W) := hW.symm
  have HGO : Hid (Ch o w o W) := Ch.ext hg
  have HH := Lib.hid (h.ext hg)
  have q1 : (kd == 1) = false := by rw [beq_eq_false_iff_ne]; omega
  have q3 : (kd == 3) = false := by rw [beq_eq_false_iff_ne]; omega
  have q4 : (kd == 4) = false := by rw [beq_eq_false_iff_ne]; omega
  have q8 : (kd == 8) = false := by rw [beq_eq_false_iff_ne]; omega
  have q9 : (kd == 9) = false := by rw [beq_eq_false_iff_ne]; omega
  have q10 : (kd == 10) = false := by rw [beq_eq_false_iff_ne]; omega
  have q11 : (kd == 11) = false := by rw [beq_eq_false_iff_ne]; omega
  clear h hb hW hg hkd
  go_enter Tryz.func52, Tryz.ntmps52
  go_wp2_with fail
  rw [HW.out]
  go_ret
  exact ⟨rfl, o, HH.out, HGO.out⟩
theorem raw_any (h : DA w0 d o S w) {a b : Nat} (hs : Sm S a b) (ha : a ≤ 1000000) (hb1 : b ≤ 1000000000) {D : OpV} (hD : OpOk w D) {Ad Ae : Option Addr} {cd ce : Nat} (e1 : D.bv = .slice Ad D.b.length cd) (e2 : D.kv = .slice Ae D.keep.length ce) (hnm : D.name.length ≤ 1000000000) (hbl : D.b.length ≤ 100000000) (hkl : D.keep.length ≤ 100000000) :
    Calls Tryz.prog 52 #[.pointer (some ⟨d, 0, none⟩), .agg #[.int .i64 D.kind, .string ⟨D.name.toArray⟩, .string ⟨D.into.toArray⟩, .int .i64 D.off, .int .i64 D.n, .slice Ad D.b.length cd, .int .u8 D.mask.toNat, .slice Ae D.keep.length ce]] w (fun e w' => ∃ X, S.raw D X ∧ RawO w0 d o w X e w') := by
  obtain ⟨kd, nm, into, off, n, bv, bs, m, kv, keep⟩ := D
  dsimp only at *
  subst e1 e2
  unfold Dk.raw
  by_cases e1 : kd = 1
  · subst e1
    exact (raw_1 h hnm into off n m).mono fun e w' k => ⟨_, by first | rfl | simp, k⟩
  · simp only [if_neg e1]
    by_cases e3 : kd = 3
    · subst e3
      exact (raw_3 h (by have := hs.fl; omega) (by have := hs.nl; omega) hnm into off n m hD.off rfl hD.b hbl).mono fun e w' k => ⟨_, by first | rfl | simp, k⟩
    · simp only [if_neg e3]
      by_cases e4 : kd = 4
      · subst e4
        exact (raw_4 h hnm into off n m hD.off).mono fun e w' k => ⟨_, by first | rfl | simp, k⟩
      · simp only [if_neg e4]
        by_cases e8 : kd = 8
        · subst e8
          exact (raw_8 h hnm into off n m hD.n).mono fun e w' k => ⟨_, by first | rfl | simp, k⟩
        · simp only [if_neg e8]
          by_cases e9 : kd = 9
          · subst e9
            exact (raw_9 h hnm into off n m hD.n).mono fun e w' k => ⟨_, by first | rfl | simp, k⟩
          · simp only [if_neg e9]
            by_cases e10 : kd = 10
            · subst e10
              exact (raw_10 h hs ha hb1 into off n m rfl hD.keep hkl).mono fun e w' ⟨X, k1, k2⟩ => ⟨X, by first | exact k1 | simpa using k1, k2⟩
            · simp only [if_neg e10]
              by_cases e11 : kd = 11
              · subst e11
                exact (raw_11 h hnm into off n m hD.off).mono fun e w' k => ⟨_, by first | rfl | simp, k⟩
              · simp only [if_neg e11]
                exact (raw_other h (by omega) into off n m).mono fun e w' k => ⟨_, rfl, k⟩
end
end Go.Proofs.YtipankjajdpiiaaGreat
