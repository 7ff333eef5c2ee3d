/-
  Files of pages: what pagefile's functions do with a disk.
-/
import Derived.Test.YtipankjajdpiiaaGreatRs
import Derived.Test.YtipankjajdpiiaaGreatDj
import Derived.Test.YtipankjajdpiiaaGreatPfP
import Derived.Test.YtipankjajdpiiaaGreatRef
namespace Go.Proofs.YtipankjajdpiiaaGreat
open Go.RowKit
set_option maxRecDepth 100000
set_option maxHeartbeats 400000

/-- a file of pages in memory. -/
structure PfR (w : World) (B : Nat) (o : Own1) (d pf : Nat) (n : List UInt8) : Prop where
  box : Blk w pf 145 #[.pointer (some ⟨d, 0, none⟩), .string ⟨n.toArray⟩, .int .u32 (crcS n)]
  free : o pf = none
  pB : B ≤ pf
section
variable {w w' : World} {B d pf : Nat} {o o' : Own1} {S : Dk} {c : Con} {n : List UInt8}
theorem PfR.ch (h : PfR w B o d pf n) (hc : Ch o w o' w') : PfR w' B o' d pf n := ⟨hc.blk h.box h.free, hc.free _ h.box.lt h.free, h.pB⟩
theorem PfR.ext (h : PfR w B o d pf n) (hg : w.grownBy w' none) : PfR w' B o d pf n := h.ch (Ch.ext hg)
theorem PfR.cells (h : PfR w B o d pf n) : w.cell? ⟨pf, 0, none⟩ = some (.pointer (some ⟨d, 0, none⟩)) ∧ w.cell? ⟨pf, 1, none⟩ = some (.string ⟨n.toArray⟩) ∧ w.cell? ⟨pf, 2, none⟩ = some (.int .u32 (crcS n)) := ⟨h.box.cell 0, h.box.cell 1, h.box.cell 2⟩
theorem made_any (d : Nat) (n : List UInt8) (hn : n.length ≤ 1000000000) (w : World) :
    Calls Tryz.prog 92 #[.pointer (some ⟨d, 0, none⟩), .string ⟨n.toArray⟩] w fun e w' => ∃ pf, e = .returned (.pointer (some ⟨pf, 0, none⟩)) ∧ w.heap.size ≤ pf ∧ Blk w' pf 145 #[.pointer (some ⟨d, 0, none⟩), .string ⟨n.toArray⟩, .int .u32 (crcS n)] ∧ w.grownBy w' none := by
  have HT := Lib.hid (tag_any n hn)
  go_enter Tryz.func92, Tryz.ntmps92
  go_wp2_with fail
  refine (HT.out _).mono ?_
  rintro e w1 ⟨rfl, g1⟩
  have G1 := Lib.hid g1
  clear g1
  go_wp2
  go_ret
  exact ⟨_, rfl, G1.out.size, Blk.new _ _ _, gr_none G1.out (gr_alloc _ _ none)⟩
/-- how many pages, or an error. -/
def Dk.ppages (S : Dk) (n : List UInt8) : Nat × Nat := ((S.size n).1 / 256, (S.size n).2)
theorem size_le (h : DI w B o d S c) (n : List UInt8) : (S.size n).1 ≤ 16777216 ∧ (S.size n).2 ≤ 9 := by
  unfold Dk.size
  split
  · simp
  · split
    · simp
    · split
      · simp
      · next f hf => exact ⟨(h.file f (find_some hf).1).small.2.1, by simp⟩
theorem pages_any (h : DI w B o d S c) (hp : PfR w B o d pf n) (hn : n.length ≤ 1000000000) :
    Calls Tryz.prog 47 #[.pointer (some ⟨pf, 0, none⟩)] w fun e w' => e = .returned (.tuple #[.int .i64 (S.ppages n).1, .int .i64 (S.ppages n).2]) ∧ w.grownBy w' none := by
  have HS : Hid (∀ wx, w.grownBy wx none → Calls Tryz.prog 64 #[.pointer (some ⟨d, 0, none⟩), .string ⟨n.toArray⟩] wx fun e w' => e = .returned (.tuple #[.int .i64 (S.size n).1, .int .i64 (S.size n).2]) ∧ wx.grownBy w' none) := fun wx hg => size_any (h.ext hg) n hn
  have hsz := (size_le h n).1
  have HK : Hid (∀ wx, w.grownBy wx none → wx.cell? ⟨pf, 0, none⟩ = some (.pointer (some ⟨d, 0, none⟩)) ∧ wx.cell? ⟨pf, 1, none⟩ = some (.string ⟨n.toArray⟩)) := fun wx hg => ⟨(hp.ext hg).cells.1, (hp.ext hg).cells.2.1⟩
  have HE : Hid ((((S.size n).1 : Nat) : Int) / 256 = ((S.ppages n).1 : Nat)) := by show _ = _; unfold Dk.ppages; push_cast; rfl
  have HE2 : Hid ((S.size n).2 = (S.ppages n).2) := rfl
  have kk := HK.out w (gr_refl _ _)
  rw [← HE2.out, ← HE.out]
  clear h hp HE HE2
  generalize (S.size n).1 = a at *
  generalize (S.size n).2 = b at *
  go_enter Tryz.func47, Tryz.ntmps47
  go_wp2
  go_region_held3 (fun w' => w'.cell? ⟨pf, 0, none⟩ = some (.pointer (some ⟨d, 0, none⟩)) ∧ w'.cell? ⟨pf, 1, none⟩ = some (.string ⟨n.toArray⟩)) (go_keep) (first
    | (go_at_call 64; (with_reducible refine (HS.out _ ?_).mono ?_); (first | exact gr_drew _ _ | exact gr_refl _ _); rintro e w1 ⟨rfl, g1⟩; have kk1 := HK.out _ (gr_trans (gr_drew _ _) g1 (.inl rfl))))
  go_wp2
  go_ret2
  exact ⟨rfl, gr_trans (gr_drew _ _) g1 (.inl rfl)⟩
theorem psync_any (h : DI w B o d S c) (hp : PfR w B o d pf n) (hn : n.length ≤ 1000000000) :
    Calls Tryz.prog 50 #[.pointer (some ⟨pf, 0, none⟩)] w fun e w' => e = .returned (.int .i64 (S.sync n).2) ∧ DOut o w B d (S.sync n).1 w' := by
  have HS : Hid (∀ wx, w.grownBy wx none → Calls Tryz.prog 69 #[.pointer (some ⟨d, 0, none⟩), .string ⟨n.toArray⟩] wx fun e w' => e = .returned (.int .i64 (S.sync n).2) ∧ DOut o wx B d (S.sync n).1 w') := fun wx hg => sync_any (h.ext hg) n hn
  have HP := Lib.hid hp
  have kk := And.intro hp.cells.1 hp.cells.2.1
  clear h hp
  go_enter Tryz.func50, Tryz.ntmps50
  go_wp2
  go_region_held3 (fun w' => w'.cell? ⟨pf, 0, none⟩ = some (.pointer (some ⟨d, 0, none⟩)) ∧ w'.cell? ⟨pf, 1, none⟩ = some (.string ⟨n.toArray⟩)) (go_keep) (first
    | (go_at_call 69; (with_reducible refine (HS.out _ ?_).mono ?_); (first | exact gr_drew _ _ | exact gr_refl _ _); rintro e w1 ⟨rfl, o1, c1, h1, ch1⟩; have kk1 := And.intro ((HP.out.ext (gr_drew _ none)).ch ch1).cells.1 ((HP.out.ext (gr_drew _ none)).ch ch1).cells.2.1))
  go_wp2
  go_ret
  exact ⟨rfl, o1, c1, h1, (Ch.ext (gr_drew _ _)).trans ch1⟩
end
end Go.Proofs.YtipankjajdpiiaaGreat

/- Files of pages: Read, Write, Create. -/
namespace Go.Proofs.YtipankjajdpiiaaGreat
open Go.RowKit
set_option maxRecDepth 100000
set_option maxHeartbeats 400000

/-- what is read of a page, or an error. -/
def Dk.pread (S : Dk) (n : List UInt8) (k : Int) : List UInt8 × Nat :=
  if k < 0 then ([], 1) else if (S.size n).2 ≠ 0 then ([], (S.size n).2) else if (((S.size n).1 / 256 : Nat) : Int) ≤ k then ([], 3) else
  match pagO (S.read n (k * 256) 256).1 (crcS n) k.toNat with
  | none => ([], 7)
  | some b => (b, 0)
def Dk.pwrite (S : Dk) (n : List UInt8) (k : Int) (b : List UInt8) : Dk × Nat :=
  if k < 0 then (S, 1) else if 240 < b.length then (S, 9) else if (S.size n).2 ≠ 0 then (S, (S.size n).2) else if (((S.size n).1 / 256 : Nat) : Int) < k then (S, 1) else
  S.write n (k * 256) (pagB (crcS n) k.toNat b)
theorem read_fine {S : Dk} {n : List UInt8} (h : (S.size n).2 = 0) {off k : Int} (ho : 0 ≤ off) (hk : 0 ≤ k) : (S.read n off k).2 = 0 := by
  unfold Dk.size at h
  unfold Dk.read
  split at h
  · cases h
  · next h1 =>
    rw [if_neg h1]
    split at h
    · cases h
    · next h2 =>
      rw [if_neg (by intro e; rcases e with e | e | e; exact h2 e; omega; omega)]
      split at h
      · cases h
      · rfl
section
variable {w w' : World} {B d pf : Nat} {o o' : Own1} {S : Dk} {c : Con} {n : List UInt8}
set_option maxHeartbeats 1000000 in
theorem pread_any (h : DI w B o d S c) (hp : PfR w B o d pf n) (hn : n.length ≤ 1000000000) (k : Int) (hk : -9223372036854775808 ≤ k ∧ k ≤ 9223372036854775807) :
    Calls Tryz.prog 46 #[.pointer (some ⟨pf, 0, none⟩), .int .i64 k] w fun e w' => (∃ v, e = .returned (.tuple #[v, .int .i64 (S.pread n k).2]) ∧ OwnB w' w.heap.size v (S.pread n k).1) ∧ w.grownBy w' none := by
  have HP : Hid (Calls Tryz.prog 47 #[.pointer (some ⟨pf, 0, none⟩)] w fun e w' => e = .returned (.tuple #[.int .i64 (S.ppages n).1, .int .i64 (S.ppages n).2]) ∧ w.grownBy w' none) := pages_any h hp hn
  have hsz := (size_le h n)
  have HK : Hid (∀ wx, w.grownBy wx none → wx.cell? ⟨pf, 0, none⟩ = some (.pointer (some ⟨d, 0, none⟩)) ∧ wx.cell? ⟨pf, 1, none⟩ = some (.string ⟨n.toArray⟩) ∧ wx.cell? ⟨pf, 2, none⟩ = some (.int .u32 (crcS n))) := fun wx hg => (hp.ext hg).cells
  have HR : Hid (∀ wx, w.grownBy wx none → 0 ≤ k → k ≤ 65535 → Calls Tryz.prog 66 #[.pointer (some ⟨d, 0, none⟩), .string ⟨n.toArray⟩, .int .i64 (k * 256), .int .i64 256] wx fun e w' =>
      (∃ v, e = .returned (.tuple #[v, .int .i64 (S.read n (k * 256) 256).2]) ∧ OwnB w' wx.heap.size v (S.read n (k * 256) 256).1) ∧ wx.grownBy w' none) := fun wx hg h1 h2 => read_any (h.ext hg) n hn (k * 256) 256 (by omega) (by omega)
  have HX : Hid (S.pread n k = if k < 0 then ([], 1) else if (S.ppages n).2 ≠ 0 then ([], (S.ppages n).2) else if (((S.ppages n).1 : Nat) : Int) ≤ k then ([], 3) else
    match pagO (S.read n (k * 256) 256).1 (crcS n) k.toNat with
    | none => ([], 7)
    | some b => (b, 0)) := rfl
  have HF : Hid ((S.ppages n).2 = 0 → 0 ≤ k → (S.read n (k * 256) 256).2 = 0) := fun e hk => read_fine e (by omega) (by omega)
  have hpp : (S.ppages n).1 ≤ 65536 := by unfold Dk.ppages; omega
  have hct : crcS n < 4294967296 := crcE_lt _ _
  clear h hp hsz
  generalize S.pread n k = R at *
  generalize (S.ppages n).1 = a at *
  generalize (S.ppages n).2 = b at *
  generalize crcS n = tag at *
  by_cases h1 : k < 0
  · have HX2 : Hid (R = ([], 1)) := by show _ = _; rw [HX.out, if_pos h1]
    rw [HX2.out]
    clear HX HX2
    go_enter Tryz.func46, Tryz.ntmps46
    go_wp2
    go_ret2
    exact ⟨⟨_, rfl, OwnB.nil _ _⟩, gr_refl _ _⟩
  by_cases h2 : b ≠ 0
  · have HX2 : Hid (R = ([], b)) := by show _ = _; rw [HX.out, if_neg h1, if_pos h2]
    rw [HX2.out]
    have hb0 : ((b : Int) != 0) = true := by rw [bne_iff_ne]; omega
    clear HX HX2 h2
    go_enter Tryz.func46, Tryz.ntmps46
    go_wp2_with fail
    refine HP.out.mono ?_
    rintro e w1 ⟨rfl, g1⟩
    go_wp2
    go_ret2
    exact ⟨⟨_, rfl, OwnB.nil _ _⟩, g1⟩
  obtain rfl : b = 0 := by omega
  obtain ⟨kn, rfl⟩ : ∃ kn : Nat, k = (kn : Int) := ⟨k.toNat, by omega⟩
  by_cases h3 : (a : Int) ≤ (kn : Int)
  · have HX2 : Hid (R = ([], 3)) := by show _ = _; rw [HX.out, if_neg h1, if_neg h2, if_pos h3]
    rw [HX2.out]
    clear HX HX2 h2
    go_enter Tryz.func46, Tryz.ntmps46
    go_wp2_with fail
    refine HP.out.mono ?_
    rintro e w1 ⟨rfl, g1⟩
    go_wp2
    go_ret2
    exact ⟨⟨_, rfl, OwnB.nil _ _⟩, g1⟩
  have HX2 : Hid (R = match pagO (S.read n ((kn : Int) * 256) 256).1 tag kn with
    | none => ([], 7)
    | some b => (b, 0)) := by show _ = _; rw [HX.out, if_neg h1, if_neg h2, if_neg h3, Int.toNat_natCast]
  have HF2 := Lib.hid (HF.out rfl (by omega))
  have hk5 : (kn : Int) ≤ 65535 := by omega
  rw [HF2.out] at HR
  clear HX HF HF2 h2 h1
  generalize (S.read n ((kn : Int) * 256) 256).1 = p at *
  have hw1 : IntKind.i64.wrap ((kn : Int) * 256) = (kn : Int) * 256 := by rw [IntWalk.i64_in _ (by omega)]
  have hlt : (kn : Int) < (a : Int) := by omega
  have hk0 : (0 : Int) ≤ (kn : Int) := by omega
  have HOP : Hid (∀ (v : Value) (wx : World), RdB wx v p → Calls Tryz.prog 94 #[v, .int .u32 tag, .int .u32 kn] wx (OpnOut wx (pagO p tag kn))) := fun v wx hv => opn_any tag kn hct (by omega) v p wx hv
  have HW := Lib.hid hw1
  clear hw1
  go_enter Tryz.func46, Tryz.ntmps46
  go_wp2_with fail
  refine HP.out.mono ?_
  rintro e w1 ⟨rfl, g1⟩
  have G1 := Lib.hid g1
  have kk := HK.out w1 g1
  have hw1 := HW.out
  clear g1
  go_wp2
  go_region_held3 (fun w' => w'.cell? ⟨pf, 0, none⟩ = some (.pointer (some ⟨d, 0, none⟩)) ∧ w'.cell? ⟨pf, 1, none⟩ = some (.string ⟨n.toArray⟩)) (go_keep) (first
    | (go_at_call 66; (with_reducible refine (HR.out _ ?_ hk0 hk5).mono ?_); (first | exact gr_none G1.out (gr_drew _ _) | exact G1.out); rintro e w2 ⟨⟨v2, rfl, o2⟩, g2⟩; have kk1 := HK.out _ (gr_none (gr_none G1.out (gr_drew _ _)) g2)))
  have G2 := Lib.hid (gr_none (gr_none G1.out (gr_drew _ none)) g2)
  have O2 := Lib.hid o2
  clear g2 o2 hw1
  go_wp2_with fail
  refine (HOP.out _ _ O2.out.rd).mono ?_
  rintro e w3 ⟨g3, hout⟩
  have G3 := Lib.hid (gr_none G2.out g3)
  have HO : Hid (∃ v', e = .returned (.tuple #[v', .int .i64 R.2]) ∧ OwnB w3 w.heap.size v' R.1) := by
    rcases hout with ⟨b, v', hr, he, ho⟩ | ⟨hr, he⟩
    · rw [hr] at HX2
      rw [HX2.out]
      exact ⟨v', he, ho.mono G2.out.size⟩
    · rw [hr] at HX2
      rw [HX2.out]
      exact ⟨_, he, OwnB.nil _ _⟩
  clear hout g3
  obtain ⟨v', rfl, ho⟩ := HO.out
  have HO2 := Lib.hid ho
  clear ho
  go_wp2
  go_ret2
  exact ⟨⟨_, rfl, HO2.out⟩, G3.out⟩
set_option maxHeartbeats 2000000 in
theorem pwrite_any (h : DI w B o d S c) (hp : PfR w B o d pf n) (hn : n.length ≤ 1000000000) (k : Int) (hk : -9223372036854775808 ≤ k ∧ k ≤ 9223372036854775807) (bv : Value) (b : List UInt8) (hb : RdB w bv b) (hbn : b.length ≤ 1000000000)
    (hfl : S.fs.length ≤ 1000000) (hnl : S.nl + 256 ≤ 4611686018427387904) :
    Calls Tryz.prog 45 #[.pointer (some ⟨pf, 0, none⟩), .int .i64 k, bv] w fun e w' => e = .returned (.int .i64 (S.pwrite n k b).2) ∧ DOut o w B d (S.pwrite n k b).1 w' := by
  obtain ⟨Ab, cb, rfl⟩ := hb.form
  have HP : Hid (Calls Tryz.prog 47 #[.pointer (some ⟨pf, 0, none⟩)] w fun e w' => e = .returned (.tuple #[.int .i64 (S.ppages n).1, .int .i64 (S.ppages n).2]) ∧ w.grownBy w' none) := pages_any h hp hn
  have hsz := (size_le h n)
  have H := Lib.hid h
  have HPF := Lib.hid hp
  have HB := Lib.hid hb
  have HX : Hid (S.pwrite n k b = if k < 0 then (S, 1) else if 240 < b.length then (S, 9) else if (S.ppages n).2 ≠ 0 then (S, (S.ppages n).2) else if (((S.ppages n).1 : Nat) : Int) < k then (S, 1) else
    S.write n (k * 256) (pagB (crcS n) k.toNat b)) := rfl
  have hpp : (S.ppages n).1 ≤ 65536 := by unfold Dk.ppages; omega
  have hct : crcS n < 4294967296 := crcE_lt _ _
  have HTG : Hid (crcS n = crcS n) := rfl
  clear h hp hb hsz
  generalize S.pwrite n k b = R at *
  generalize (S.ppages n).1 = a at *
  generalize (S.ppages n).2 = q at *
  by_cases h1 : k < 0
  · have HX2 : Hid (R = (S, 1)) := by show _ = _; rw [HX.out, if_pos h1]
    rw [HX2.out]
    clear HX HX2
    go_enter Tryz.func45, Tryz.ntmps45
    go_wp2
    go_ret
    exact ⟨rfl, o, c, H.out, Ch.refl _ _⟩
  by_cases h2 : 240 < b.length
  · have HX2 : Hid (R = (S, 9)) := by show _ = _; rw [HX.out, if_neg h1, if_pos h2]
    rw [HX2.out]
    have h1' : (0 : Int) ≤ k := by omega
    clear HX HX2 h1
    go_enter Tryz.func45, Tryz.ntmps45
    go_wp2
    go_ret
    exact ⟨rfl, o, c, H.out, Ch.refl _ _⟩
  have h2' : b.length ≤ 240 := by omega
  by_cases h3 : q ≠ 0
  · have HX2 : Hid (R = (S, q)) := by show _ = _; rw [HX.out, if_neg h1, if_neg h2, if_pos h3]
    rw [HX2.out]
    have hb0 : ((q : Int) != 0) = true := by rw [bne_iff_ne]; omega
    have h1' : (0 : Int) ≤ k := by omega
    clear HX HX2 h3 h1 h2
    go_enter Tryz.func45, Tryz.ntmps45
    go_wp2_with fail
    refine HP.out.mono ?_
    rintro e w1 ⟨rfl, g1⟩
    have G1 := Lib.hid g1
    clear g1
    go_wp2
    go_ret
    exact ⟨rfl, o, c, H.out.ext G1.out, Ch.ext G1.out⟩
  obtain rfl : q = 0 := by omega
  obtain ⟨kn, rfl⟩ : ∃ kn : Nat, k = (kn : Int) := ⟨k.toNat, by omega⟩
  by_cases h4 : (a : Int) < (kn : Int)
  · have HX2 : Hid (R = (S, 1)) := by show _ = _; rw [HX.out, if_neg h1, if_neg h2, if_neg h3, if_pos h4]
    rw [HX2.out]
    clear HX HX2 h3 h1 h2
    go_enter Tryz.func45, Tryz.ntmps45
    go_wp2_with fail
    refine HP.out.mono ?_
    rintro e w1 ⟨rfl, g1⟩
    have G1 := Lib.hid g1
    clear g1
    go_wp2
    go_ret
    exact ⟨rfl, o, c, H.out.ext G1.out, Ch.ext G1.out⟩
  have HX2 : Hid (R = S.write n ((kn : Int) * 256) (pagB (crcS n) kn b)) := by show _ = _; rw [HX.out, if_neg h1, if_neg h2, if_neg h3, if_neg h4, Int.toNat_natCast]
  have hk5 : (kn : Int) ≤ 65536 := by omega
  have hk0 : (0 : Int) ≤ (kn : Int) := by omega
  rw [HX2.out]
  have HL : Hid ((pagB (crcS n) kn b).length = 256) := pagB_len h2'
  have HMK : Hid (∀ wx, w.grownBy wx none → Calls Tryz.prog 93 #[.int .u32 (crcS n), .int .u32 kn, .slice Ab b.length cb] wx fun e w' => (∃ v', e = .returned (.tuple #[v', .int .i64 0]) ∧ OwnB w' wx.heap.size v' (pagB (crcS n) kn b)) ∧ wx.grownBy w' none) := fun wx hg =>
    mk_any (crcS n) kn hct (by omega) _ b wx (HB.out.ext hg) h2'
  have HWR : Hid (∀ (wx : World) (v : Value) (B1 : Nat), w.grownBy wx none → w.heap.size ≤ B1 → OwnB wx B1 v (pagB (crcS n) kn b) → Calls Tryz.prog 27 #[.pointer (some ⟨d, 0, none⟩), .string ⟨n.toArray⟩, .int .i64 ((kn : Int) * 256), v] wx fun e w' => e = .returned (.int .i64 (S.write n ((kn : Int) * 256) (pagB (crcS n) kn b)).2) ∧ DOut o wx B d (S.write n ((kn : Int) * 256) (pagB (crcS n) kn b)).1 w') := fun wx v B1 hg hB ho =>
    write_any (H.out.ext hg) n hn _ (by omega) v _ ho.rd (fun j hj => by
      have hj2 := Own.blk_lt ho (by omega) hj
      refine ⟨hj2.2, ?_⟩
      cases e : o j with
      | none => rfl
      | some t => exact absurd (H.out.inb j (by rw [e]; simp)).2 (by omega)) (by rw [HL.out]; omega) hfl (by rw [HL.out]; omega)
  clear HX HX2 h3 h1 h2 HL
  have HKC : Hid (∀ wx, w.grownBy wx none → wx.cell? ⟨pf, 0, none⟩ = some (.pointer (some ⟨d, 0, none⟩)) ∧ wx.cell? ⟨pf, 1, none⟩ = some (.string ⟨n.toArray⟩) ∧ wx.cell? ⟨pf, 2, none⟩ = some (.int .u32 (crcS n))) := fun wx hg => (HPF.out.ext hg).cells
  generalize S.write n ((kn : Int) * 256) (pagB (crcS n) kn b) = X at *
  generalize pagB (crcS n) kn b = P at *
  generalize crcS n = tag at *
  have hw1 : IntKind.i64.wrap ((kn : Int) * 256) = (kn : Int) * 256 := by rw [IntWalk.i64_in _ (by omega)]
  have HW := Lib.hid hw1
  have hlt : (kn : Int) ≤ (a : Int) := by omega
  clear hw1
  go_enter Tryz.func45, Tryz.ntmps45
  go_wp2_with fail
  refine HP.out.mono ?_
  rintro e w1 ⟨rfl, g1⟩
  have G1 := Lib.hid g1
  have kk := HKC.out w1 g1
  clear g1
  go_wp2_with fail
  refine (HMK.out _ G1.out).mono ?_
  rintro e w2 ⟨⟨v2, rfl, o2⟩, g2⟩
  have G2 := Lib.hid (gr_none G1.out g2)
  have O2 := Lib.hid (o2.mono G1.out.size)
  have kk2 := HKC.out w2 G2.out
  have hw1 := HW.out
  clear o2 g2
  go_wp2
  go_region_held3 (fun w' => w'.cell? ⟨pf, 0, none⟩ = some (.pointer (some ⟨d, 0, none⟩)) ∧ w'.cell? ⟨pf, 1, none⟩ = some (.string ⟨n.toArray⟩)) (go_keep) (first
    | (go_at_call 27; (with_reducible refine (HWR.out _ _ _ ?_ (Nat.le_refl _) ?_).mono ?_); (first | exact gr_none G2.out (gr_drew _ _) | exact G2.out); (first | exact O2.out.ext (gr_drew _ _) | exact O2.out); rintro e w3 ⟨rfl, o3, c3, h3, ch3⟩; have kk3 := And.intro ((HPF.out.ext (gr_none G2.out (gr_drew _ none))).ch ch3).cells.1 ((HPF.out.ext (gr_none G2.out (gr_drew _ none))).ch ch3).cells.2.1))
  go_wp2
  go_ret
  exact ⟨rfl, o3, c3, h3, (Ch.ext (gr_none G2.out (gr_drew _ none))).trans ch3⟩
/-- Create. -/
theorem pcreate_any (h : DI w B o d S c) (hn : n.length ≤ 1000000000) (hfl : S.fs.length ≤ 1000000) :
    Calls Tryz.prog 44 #[.pointer (some ⟨d, 0, none⟩), .string ⟨n.toArray⟩] w fun e w' => ∃ o' c', DI w' B o' d (S.create n).1 c' ∧ Ch o w o' w' ∧
      (((S.create n).2 = 0 ∧ ∃ pf, e = .returned (.tuple #[.pointer (some ⟨pf, 0, none⟩), .int .i64 0]) ∧ w.heap.size ≤ pf ∧ PfR w' B o' d pf n) ∨ ((S.create n).2 ≠ 0 ∧ e = .returned (.tuple #[.pointer none, .int .i64 (S.create n).2]))) := by
  have hC := Lib.hid (create_any h n hn hfl)
  have hM := Lib.hid (made_any d n hn)
  have hdB : B ≤ w.heap.size := by have := h.inb d (by rw [h.tD]; simp); omega
  clear h
  generalize S.create n = X at *
  obtain ⟨S1, q⟩ := X
  by_cases hq : q = 0
  · subst hq
    go_enter Tryz.func44, Tryz.ntmps44
    go_wp2_with fail
    refine hC.out.mono ?_
    rintro e w1 ⟨rfl, o1, c1, h1, ch1⟩
    have H1 := Lib.hid h1
    have C1 := Lib.hid ch1
    clear h1 ch1
    go_wp2_with fail
    refine (hM.out _).mono ?_
    rintro e w2 ⟨pf, rfl, hpf, hb, g2⟩
    have HB := Lib.hid hb
    have G2 := Lib.hid g2
    clear hb g2
    go_wp2
    go_ret2
    refine ⟨o1, c1, H1.out.ext G2.out, C1.out.trans (Ch.ext G2.out), .inl ⟨by trivial, pf, rfl, Nat.le_trans C1.out.size hpf, HB.out, ?_, Nat.le_trans hdB (Nat.le_trans C1.out.size hpf)⟩⟩
    cases e : o1 pf with
    | none => rfl
    | some t => exact absurd (H1.out.inb pf (by rw [e]; simp)).2 (by omega)
  · have hb0 : ((q : Int) != 0) = true := by rw [bne_iff_ne]; omega
    have HQ := Lib.hid hq
    clear hq
    go_enter Tryz.func44, Tryz.ntmps44
    go_wp2_with fail
    refine hC.out.mono ?_
    rintro e w1 ⟨rfl, o1, c1, h1, ch1⟩
    have H1 := Lib.hid h1
    have C1 := Lib.hid ch1
    clear h1 ch1
    go_wp2
    go_ret2
    exact ⟨o1, c1, H1.out, C1.out, .inr ⟨HQ.out, rfl⟩⟩
end
end Go.Proofs.YtipankjajdpiiaaGreat

/- A file of pages is opened, on any disk. -/
namespace Go.Proofs.YtipankjajdpiiaaGreat
open Go.RowKit Go.Maps
set_option maxRecDepth 100000
set_option maxHeartbeats 400000

section
variable {w w' : World} {B d : Nat} {o o' : Own1} {S : Dk} {c : Con} {n : List UInt8}
/-- how many pages the disk has of a file. -/
def Dk.pgs (S : Dk) (n : List UInt8) : Nat × Nat := if (S.size n).2 ≠ 0 then (0, (S.size n).2) else if (S.size n).1 % 256 ≠ 0 then (0, 7) else ((S.size n).1 / 256, 0)
def POpenO (o : Own1) (d : Nat) (n : List UInt8) (X : Nat × Nat) (w : World) (e : Ending) (w' : World) : Prop := w.grownBy w' none ∧
  ((X.2 ≠ 0 ∧ e = .returned (.tuple #[.pointer none, .int .i64 X.2])) ∨ (X.2 = 0 ∧ ∃ pf, e = .returned (.tuple #[.pointer (some ⟨pf, 0, none⟩), .int .i64 0]) ∧ w.heap.size ≤ pf ∧ PfR w' w.heap.size o d pf n))
theorem popen_gen (h : DI w B o d S c) (hn : n.length ≤ 1000000000) :
    Calls Tryz.prog 49 #[.pointer (some ⟨d, 0, none⟩), .string ⟨n.toArray⟩] w (POpenO o d n (S.pgs n) w) := by
  have hz := size_le h n
  have HS := Lib.hid (size_any h n hn)
  have HM := Lib.hid (made_any d n hn)
  have HF : Hid (∀ i, w.heap.size ≤ i → o i = none) := fun i hi => by
    cases e : o i with
    | none => rfl
    | some t => exact absurd (h.inb i (by rw [e]; simp)).2 (by omega)
  clear h
  obtain ⟨Y, hY⟩ : ∃ Y, Y = S.pgs n := ⟨_, rfl⟩
  rw [← hY]
  unfold Dk.pgs at hY
  obtain ⟨X, hX⟩ : ∃ X, X = S.size n := ⟨_, rfl⟩
  rw [← hX] at hz HS hY
  obtain ⟨a, e⟩ := X
  simp only [] at hz HS hY
  clear hX
  by_cases he : e = 0
  · subst he
    rw [if_neg (by simp)] at hY
    by_cases hm : a % 256 = 0
    · have hm2 : ((a : Int) % 256 != 0) = false := by rw [bne_eq_false_iff_eq]; omega
      have hr : IntKind.i64.wrap ((a : Int) % 256) = (a : Int) % 256 := by rw [IntWalk.i64_in _ (by omega)]
      rw [if_neg (by rw [hm]; simp)] at hY
      subst hY
      clear hm
      go_enter Tryz.func49, Tryz.ntmps49
      go_wp2_with fail
      refine HS.out.mono ?_
      rintro e w1 ⟨rfl, g1⟩
      have G1 := Lib.hid g1
      clear g1 HS
      go_wp2_with fail
      refine (HM.out _).mono ?_
      rintro e w2 ⟨pf, rfl, hpf, hb, g2⟩
      have HPF := Lib.hid hpf
      have HB := Lib.hid hb
      have G2 := Lib.hid g2
      clear hpf hb g2
      go_wp2
      go_ret2
      exact ⟨gr_none G1.out G2.out, .inr ⟨rfl, pf, rfl, Nat.le_trans G1.out.size HPF.out, HB.out, HF.out _ (Nat.le_trans G1.out.size HPF.out), Nat.le_trans G1.out.size HPF.out⟩⟩
    · have hm2 : ((a : Int) % 256 != 0) = true := by rw [bne_iff_ne]; omega
      have hr : IntKind.i64.wrap ((a : Int) % 256) = (a : Int) % 256 := by rw [IntWalk.i64_in _ (by omega)]
      rw [if_pos hm] at hY
      subst hY
      clear hm
      go_enter Tryz.func49, Tryz.ntmps49
      go_wp2_with fail
      refine HS.out.mono ?_
      rintro e w1 ⟨rfl, g1⟩
      have G1 := Lib.hid g1
      clear g1 HS
      go_wp2
      go_ret2
      exact ⟨G1.out, .inl ⟨by simp, rfl⟩⟩
  · have hne : ((e : Int) != 0) = true := by rw [bne_iff_ne]; omega
    have HX : Hid (e ≠ 0) := he
    rw [if_pos he] at hY
    subst hY
    clear he
    go_enter Tryz.func49, Tryz.ntmps49
    go_wp2_with fail
    refine HS.out.mono ?_
    rintro e w1 ⟨rfl, g1⟩
    have G1 := Lib.hid g1
    clear g1 HS
    go_wp2
    go_ret2
    exact ⟨G1.out, .inl ⟨HX.out, rfl⟩⟩
end
end Go.Proofs.YtipankjajdpiiaaGreat

/- No file of pages: what it tells. -/
namespace Go.Proofs.YtipankjajdpiiaaGreat
open Go.RowKit
set_option maxRecDepth 100000
set_option maxHeartbeats 400000

theorem pages_nil (w : World) : Calls Tryz.prog 47 #[.pointer none] w fun e w' => e = .returned (.tuple #[.int .i64 0, .int .i64 2]) ∧ w = w' := by
  go_enter Tryz.func47, Tryz.ntmps47
  go_wp2
  go_ret2
  exact ⟨rfl, rfl⟩
theorem pread_nil (w : World) (k : Int) : Calls Tryz.prog 46 #[.pointer none, .int .i64 k] w fun e w' => e = .returned (.tuple #[.slice none 0 0, .int .i64 2]) ∧ w = w' := by
  go_enter Tryz.func46, Tryz.ntmps46
  go_wp2
  go_ret2
  exact ⟨rfl, rfl⟩
theorem pwrite_nil (w : World) (k : Int) (v : Value) : Calls Tryz.prog 45 #[.pointer none, .int .i64 k, v] w fun e w' => e = .returned (.int .i64 2) ∧ w = w' := by
  go_enter Tryz.func45, Tryz.ntmps45
  go_wp2
  go_ret
  exact ⟨rfl, rfl⟩
theorem psync_nil (w : World) : Calls Tryz.prog 50 #[.pointer none] w fun e w' => e = .returned (.int .i64 2) ∧ w = w' := by
  go_enter Tryz.func50, Tryz.ntmps50
  go_wp2
  go_ret
  exact ⟨rfl, rfl⟩
theorem pname_nil (w : World) : Calls Tryz.prog 48 #[.pointer none] w fun e w' => e = .returned (.string ⟨#[]⟩) ∧ w = w' := by
  go_enter Tryz.func48, Tryz.ntmps48
  go_wp2
  go_ret
  exact ⟨rfl, rfl⟩
end Go.Proofs.YtipankjajdpiiaaGreat

/- A disk with one file of pages: what it holds, and what is done with it. -/
namespace Go.Proofs.YtipankjajdpiiaaGreat
open Go.RowKit
set_option maxRecDepth 100000
set_option maxHeartbeats 400000

structure PgS (q : Nat) (S : Dk) (n : Nat) (g : Nat → List UInt8) (m : Nat) : Prop where
  idle : Idle S
  quota : S.quota = q
  nl : S.nl ≤ 256 * m
  file : ∃ c la, S.fs = [⟨an, c, la⟩] ∧ Holds c (crcS an) n g
section
variable {q n m : Nat} {S : Dk} {g : Nat → List UInt8}
theorem PgS.find (h : PgS q S n g m) : ∃ c la, S.find an = some ⟨an, c, la⟩ ∧ Holds c (crcS an) n g := by
  obtain ⟨c, la, e, hh⟩ := h.file
  exact ⟨c, la, by unfold Dk.find; rw [e]; simp, hh⟩
theorem PgS.size (h : PgS q S n g m) : S.size an = (256 * n, 0) := by
  obtain ⟨c, la, hf, hh⟩ := h.find
  rw [size_idle h.idle an_right hf]
  exact congrArg (·, 0) hh.len
theorem PgS.pages (h : PgS q S n g m) : S.ppages an = (n, 0) := by
  unfold Dk.ppages; rw [h.size]; simp
theorem PgS.used (h : PgS q S n g m) : S.used = 4 * n := by
  obtain ⟨c, la, e, hh⟩ := h.file
  unfold Dk.used; rw [e]; simp [hh.len, sectors]; omega
theorem PgS.read_ (h : PgS q S n g m) (k : Nat) : (S.read an ((k : Int) * 256) 256).1 = pgA ((S.find an).elim [] Fi.now) k := by
  obtain ⟨c, la, hf, hh⟩ := h.find
  have := read_idle (p := k * 256) (k := 256) h.idle an_right hf
  rw [show ((k * 256 : Nat) : Int) = (k : Int) * 256 from by push_cast; rfl] at this
  rw [show ((256 : Nat) : Int) = 256 from rfl] at this
  rw [this, hf]
  show _ = pgA c k
  unfold pgA
  rw [Nat.mul_comm]
theorem pread_of {S : Dk} {nm : List UInt8} {n : Nat} (hs : S.size nm = (256 * n, 0)) {k : Nat} (hk : k < n) : S.pread nm k = match pagO (S.read nm ((k : Int) * 256) 256).1 (crcS nm) k with | none => ([], 7) | some b => (b, 0) := by
  unfold Dk.pread
  rw [hs, if_neg (by omega), if_neg (by simp), if_neg (by simp; omega), Int.toNat_natCast]
  all_goals rfl
theorem PgS.pread (h : PgS q S n g m) {k : Nat} (hk : k < n) : S.pread an k = (g k, 0) := by
  rw [pread_of h.size hk, h.read_ k]
  obtain ⟨c, la, hf, hh⟩ := h.find
  rw [hf]
  show (match pagO (pgA c k) (crcS an) k with | none => ([], 7) | some b => (b, 0)) = _
  rw [hh.at_ k hk]
def updG (g : Nat → List UInt8) (k : Nat) (b : List UInt8) : Nat → List UInt8 := fun i => if i = k then b else g i
theorem PgS.write (h : PgS q S n g m) {k : Nat} (hk : k ≤ n) (hn : n ≤ 1000) (hq : 4 * (n + 1) ≤ q) {b : List UInt8} (hb : b.length ≤ 240) :
    (S.pwrite an k b).2 = 0 ∧ PgS q (S.pwrite an k b).1 (max n (k + 1)) (updG g k b) (m + 1) := by
  obtain ⟨c, la, e, hh⟩ := h.file
  have hf : S.find an = some ⟨an, c, la⟩ := by unfold Dk.find; rw [e]; simp
  have hl := pagB_len (tag := crcS an) (k := k) hb
  have hw : S.write an ((k : Int) * 256) (pagB (crcS an) k b) = (S.wrote an (k * 256) (pagB (crcS an) k b), 0) := by
    have := write_idle (S := S) (f := ⟨an, c, la⟩) (n := an) (p := k * 256) (b := pagB (crcS an) k b) h.idle an_right hf (by show k * 256 ≤ c.length; rw [hh.len]; omega) (by rw [hl]; omega) (by
      intro hx
      have hu := h.used
      have hx2 := hx.2
      unfold moreS at hx2
      rw [h.quota, hu, hl] at hx2
      have e1 : (⟨an, c, la⟩ : Fi).now.length = 256 * n := hh.len
      rw [e1] at hx2
      unfold sectors at hx2
      omega)
    rw [show ((k * 256 : Nat) : Int) = (k : Int) * 256 from by push_cast; rfl] at this
    exact this
  have hp : S.pwrite an k b = (S.wrote an (k * 256) (pagB (crcS an) k b), 0) := by
    unfold Dk.pwrite
    rw [h.size, if_neg (by omega), if_neg (by omega), if_neg (by simp), if_neg (by simp; omega), Int.toNat_natCast, hw]
  rw [hp]
  refine ⟨rfl, ⟨h.idle.1, h.idle.2⟩, h.quota, ?_, overZ c (k * 256) (pagB (crcS an) k b), la, ?_, ?_⟩
  · show S.nl + (pagB (crcS an) k b).length ≤ _
    rw [hl]; have := h.nl; omega
  · unfold Dk.wrote setF
    rw [e]
    simp
  · rw [Nat.mul_comm k]
    exact hh.write hk (by omega) (crcE_lt _ _) hb
theorem PgS.sync (h : PgS q S n g m) : (S.sync an).2 = 0 ∧ PgS q (S.sync an).1 n g m := by
  obtain ⟨c, la, e, hh⟩ := h.file
  have hf : S.find an = some ⟨an, c, la⟩ := by unfold Dk.find; rw [e]; simp
  rw [sync_idle h.idle an_right hf]
  refine ⟨rfl, ⟨h.idle.1, h.idle.2⟩, h.quota, h.nl, c, c, ?_, hh⟩
  unfold Dk.synced setF
  rw [e]
  simp
theorem newD_idle (q : Nat) : Idle (newD q) := ⟨rfl, rfl⟩
theorem PgS.create (q : Nat) (g : Nat → List UInt8) : ((newD q).create an).2 = 0 ∧ PgS q ((newD q).create an).1 0 g 0 := by
  rw [create_idle (newD_idle q) an_right rfl]
  exact ⟨rfl, ⟨rfl, rfl⟩, rfl, by simp [newD], [], [], by simp [newD], Holds.nil _ _⟩
end
/-- .. in memory. -/
def PgW (w0 w : World) (d pf q n : Nat) (g : Nat → List UInt8) (m : Nat) : Prop := ∃ o c S, DI w w0.heap.size o d S c ∧ PgS q S n g m ∧ PfR w w0.heap.size o d pf an ∧ w0.grownBy w none
section
variable {w0 w w' : World} {d pf q n m : Nat} {g : Nat → List UInt8}
theorem PgW.gr (h : PgW w0 w d pf q n g m) : w0.grownBy w none := by obtain ⟨_, _, _, _, _, _, h⟩ := h; exact h
theorem PgW.ext (h : PgW w0 w d pf q n g m) (hg : w.grownBy w' none) : PgW w0 w' d pf q n g m := by
  obtain ⟨o, c, S, h1, h2, h3, h4⟩ := h
  exact ⟨o, c, S, h1.ext hg, h2, h3.ext hg, gr_none h4 hg⟩
theorem PgW.pages (h : PgW w0 w d pf q n g m) : Calls Tryz.prog 47 #[.pointer (some ⟨pf, 0, none⟩)] w fun e w' => e = .returned (.tuple #[.int .i64 n, .int .i64 0]) ∧ w.grownBy w' none := by
  obtain ⟨o, c, S, h1, h2, h3, h4⟩ := h
  have := pages_any h1 h3 (by simp)
  rw [h2.pages] at this
  exact this
theorem PgW.read (h : PgW w0 w d pf q n g m) {k : Nat} (hk : k < n) (hn : n ≤ 1000) : Calls Tryz.prog 46 #[.pointer (some ⟨pf, 0, none⟩), .int .i64 k] w fun e w' => (∃ v, e = .returned (.tuple #[v, .int .i64 0]) ∧ OwnB w' w.heap.size v (g k)) ∧ w.grownBy w' none := by
  obtain ⟨o, c, S, h1, h2, h3, h4⟩ := h
  have := pread_any h1 h3 (by simp) k (by omega)
  rw [h2.pread hk] at this
  exact this
theorem PgW.write (h : PgW w0 w d pf q n g m) {k : Nat} (hk : k ≤ n) (hn : n ≤ 1000) (hm : m ≤ 1000000) (hq : 4 * (n + 1) ≤ q) {bv : Value} {b : List UInt8} (hb : RdB w bv b) (hb2 : b.length ≤ 240) :
    Calls Tryz.prog 45 #[.pointer (some ⟨pf, 0, none⟩), .int .i64 k, bv] w fun e w' => e = .returned (.int .i64 0) ∧ PgW w0 w' d pf q (max n (k + 1)) (updG g k b) (m + 1) := by
  obtain ⟨o, c, S, h1, h2, h3, h4⟩ := h
  have hfs : S.fs.length = 1 := by obtain ⟨c', la, e, _⟩ := h2.file; rw [e]; rfl
  refine (pwrite_any h1 h3 (by simp) k (by omega) bv b hb (by omega) (by omega) (by have := h2.nl; omega)).mono ?_
  obtain ⟨e0, hS⟩ := h2.write hk hn hq hb2
  rintro e w' ⟨rfl, o', c', h1', ch⟩
  exact ⟨by rw [e0]; rfl, o', c', _, h1', hS, h3.ch ch, ch.gr h4 fun i hi => (h1.inb i hi).1⟩
theorem PgW.sync (h : PgW w0 w d pf q n g m) : Calls Tryz.prog 50 #[.pointer (some ⟨pf, 0, none⟩)] w fun e w' => e = .returned (.int .i64 0) ∧ PgW w0 w' d pf q n g m := by
  obtain ⟨o, c, S, h1, h2, h3, h4⟩ := h
  refine (psync_any h1 h3 (by simp)).mono ?_
  obtain ⟨e0, hS⟩ := h2.sync
  rintro e w' ⟨rfl, o', c', h1', ch⟩
  exact ⟨by rw [e0]; rfl, o', c', _, h1', hS, h3.ch ch, ch.gr h4 fun i hi => (h1.inb i hi).1⟩
theorem pcreate_new (w0 w : World) (d q : Nat) (o : Own1) (c : Con) (h : DI w w0.heap.size o d (newD q) c) (hg : w0.grownBy w none) (g : Nat → List UInt8) :
    Calls Tryz.prog 44 #[.pointer (some ⟨d, 0, none⟩), .string ⟨an.toArray⟩] w fun e w' => ∃ pf, e = .returned (.tuple #[.pointer (some ⟨pf, 0, none⟩), .int .i64 0]) ∧ PgW w0 w' d pf q 0 g 0 := by
  refine (pcreate_any h (n := an) (by simp) (by simp [newD])).mono ?_
  obtain ⟨e0, hS⟩ := PgS.create q g
  rintro e w' ⟨o', c', h1, ch, ⟨_, pf, rfl, _, hp⟩ | ⟨hne, _⟩⟩
  · exact ⟨pf, rfl, o', c', _, h1, hS, hp, ch.gr hg fun i hi => (h.inb i hi).1⟩
  · exact absurd e0 hne
theorem pname_any (h : PgW w0 w d pf q n g m) : Calls Tryz.prog 48 #[.pointer (some ⟨pf, 0, none⟩)] w fun e w' => e = .returned (.string ⟨an.toArray⟩) ∧ w = w' := by
  obtain ⟨o, c, S, h1, h2, h3, h4⟩ := h
  have hc := h3.cells.2.1
  clear h1 h2 h3 h4
  go_enter Tryz.func48, Tryz.ntmps48
  go_wp2
  go_ret
  exact ⟨rfl, rfl⟩
end
end Go.Proofs.YtipankjajdpiiaaGreat

/- The page laws' files: works, laid. -/
namespace Go.Proofs.YtipankjajdpiiaaGreat
open Go.RowKit
set_option maxRecDepth 100000
set_option maxHeartbeats 400000

/-- a slice of slices of bytes. -/
def RdBB (w : World) (v : Value) (ll : List (List UInt8)) : Prop := ∃ vs : List Value, Rd w 1 v ll.length vs ∧ ∀ i, i < ll.length → RdB w (vs.getD i undef) (ll.getD i [])
section
variable {w w' : World} {v : Value} {ll : List (List UInt8)}
theorem RdBB.form (h : RdBB w v ll) : ∃ A c, v = .slice A ll.length c := by obtain ⟨vs, ⟨_, A, c, _, _, e, _⟩, _⟩ := h; exact ⟨A, c, e⟩
theorem RdBB.ext (h : RdBB w v ll) (hg : w.grownBy w' none) : RdBB w' v ll := by
  obtain ⟨vs, h1, h2⟩ := h
  exact ⟨vs, h1.ext hg, fun i hi => (h2 i hi).ext hg⟩
theorem RdBB.at_ {A : Option Addr} {c : Nat} (h : RdBB w (.slice A ll.length c) ll) : ∃ g off, (0 < ll.length → A = some ⟨g, off, none⟩) ∧ ll.length ≤ c ∧ c ≤ maxLen ∧ ∀ i, i < ll.length → ∃ Ai ci, w.cell? ⟨g, off + i, none⟩ = some (.slice Ai (ll.getD i []).length ci) ∧ RdB w (.slice Ai (ll.getD i []).length ci) (ll.getD i []) := by
  obtain ⟨vs, ⟨hl, A', c', g, off, e, hn, hc, hA0, hA, hx⟩, h2⟩ := h
  cases e
  refine ⟨g, off, fun h0 => hA (by omega), hn, hc, fun i hi => ?_⟩
  have h3 := h2 i hi
  obtain ⟨Ai, ci, e⟩ := h3.form
  rw [e] at h3
  refine ⟨Ai, ci, ?_, h3⟩
  rw [hx i (by omega), ← e, List.getD_eq_getElem?_getD]
  have : i < vs.length := by omega
  rw [List.getElem?_eq_getElem this]
  rfl
end
def LaidOut (w : World) (ll : List (List UInt8)) (e : Ending) (w' : World) : Prop :=
  w.grownBy w' none ∧ ((e = .returned (.tuple #[.pointer none, .pointer none, .bool false])) ∨
    ((∀ i, i < ll.length → (ll.getD i []).length ≤ 240) ∧ ∃ d pf, e = .returned (.tuple #[.pointer (some ⟨d, 0, none⟩), .pointer (some ⟨pf, 0, none⟩), .bool true]) ∧ PgW w w' d pf 4096 ll.length (fun i => ll.getD i []) ll.length))
theorem updG_same (g : Nat → List UInt8) (k : Nat) : updG g k (g k) = g := by
  funext i; unfold updG; split
  · next e => rw [e]
  · rfl
set_option maxHeartbeats 2000000 in
theorem works_any (w : World) : Calls Tryz.prog 18 #[] w fun e w' => e = .returned (.bool true) ∧ w.grownBy w' none := by
  have HNEW := Lib.hid (new_ok 100 w (by omega))
  have HCR : Hid (∀ (wx : World) (d : Nat) (o : Own1) (c : Con), DI wx w.heap.size o d (newD 100) c → w.grownBy wx none → Calls Tryz.prog 44 #[.pointer (some ⟨d, 0, none⟩), .string ⟨an.toArray⟩] wx fun e w' => ∃ pf, e = .returned (.tuple #[.pointer (some ⟨pf, 0, none⟩), .int .i64 0]) ∧ PgW w w' d pf 100 0 (fun _ => [1, 2]) 0) :=
    fun wx d o c h hg => pcreate_new w wx d 100 o c h hg _
  have HWR : Hid (∀ (wx : World) (d pf : Nat) (v : Value), PgW w wx d pf 100 0 (fun _ => [1, 2]) 0 → RdB wx v [1, 2] → Calls Tryz.prog 45 #[.pointer (some ⟨pf, 0, none⟩), .int .i64 0, v] wx fun e w' => e = .returned (.int .i64 0) ∧ PgW w w' d pf 100 1 (fun _ => [1, 2]) 1) := fun wx d pf v hp hv => by
    have := PgW.write hp (k := 0) (Nat.le_refl _) (by omega) (by omega) (by omega) hv (by simp)
    have e := updG_same (fun _ => [1, 2]) 0
    rw [e] at this
    exact this
  have HRD : Hid (∀ (wx : World) (d pf : Nat), PgW w wx d pf 100 1 (fun _ => [1, 2]) 1 → Calls Tryz.prog 46 #[.pointer (some ⟨pf, 0, none⟩), .int .i64 0] wx fun e w' => (∃ v, e = .returned (.tuple #[v, .int .i64 0]) ∧ OwnB w' wx.heap.size v [1, 2]) ∧ wx.grownBy w' none) := fun wx d pf hp => hp.read (k := 0) (by omega) (by omega)
  have HLIT : Hid (∀ wx : World, RdB (wx.alloc (.cells #[.int .u8 1, .int .u8 2] 5)) (.slice (some ⟨wx.heap.size, 0, none⟩) 2 2) [1, 2]) := fun wx => rd_lit wx 1 2 2 #[.int .u8 1, .int .u8 2] _ rfl (Nat.le_refl _) (by unfold maxLen; omega)
  go_enter Tryz.func18, Tryz.ntmps18
  go_wp2_with fail
  refine HNEW.out.mono ?_
  rintro e w1 ⟨d, o, c, rfl, h1, g1⟩
  have HCR1 := Lib.hid (HCR.out _ _ _ _ h1 g1)
  clear h1 g1
  go_wp2_with fail
  refine HCR1.out.mono ?_
  rintro e w2 ⟨pf, rfl, p2⟩
  have HWR1 := Lib.hid (HWR.out _ d pf _ (p2.ext (gr_alloc w2 (.cells #[.int .u8 1, .int .u8 2] 5) none)) (HLIT.out w2))
  clear p2
  go_wp2_with fail
  refine HWR1.out.mono ?_
  rintro e w3 ⟨rfl, p3⟩
  have P3 := Lib.hid p3
  clear p3
  go_wp2_with fail
  refine (HRD.out _ _ _ P3.out).mono ?_
  rintro e w4 ⟨⟨v4, rfl, o4⟩, g4⟩
  have P4 := Lib.hid (P3.out.ext g4)
  have HPG := Lib.hid P4.out.pages
  obtain ⟨A4, c4, rfl⟩ := o4.rd.form
  have O4 := Lib.hid o4
  clear o4 g4
  go_wp2_with fail
  refine HPG.out.mono ?_
  rintro e w5 ⟨rfl, g5⟩
  have P5 := Lib.hid (P4.out.ext g5)
  have HNM := Lib.hid (pname_any P5.out)
  obtain ⟨g', off', rfl, hle, _, hc0, hc1', _⟩ := (O4.out.ext g5).at_ (k := 1) (by simp)
  have hc1 : w5.cell? ⟨g', off' + 1, none⟩ = some (.int .u8 2) := hc1'
  clear hc1' g5 hle
  go_wp2_with fail
  refine HNM.out.mono ?_
  rintro e w6 ⟨rfl, rfl⟩
  go_wp2
  go_ret
  exact ⟨rfl, P5.out.gr⟩
end Go.Proofs.YtipankjajdpiiaaGreat
