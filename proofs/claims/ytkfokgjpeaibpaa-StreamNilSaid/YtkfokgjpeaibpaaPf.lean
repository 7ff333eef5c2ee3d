/-
  Files of pages: what pagefile's functions do with a disk.
-/
import Derived.Test.YtkfokgjpeaibpaaPgO
import Derived.Test.YtkfokgjpeaibpaaDj
import Derived.Test.YtkfokgjpeaibpaaPfP
namespace Go.Proofs.Ytkfokgjpeaibpaa
open Go.RowKit
set_option maxRecDepth 100000
set_option maxHeartbeats 400000

/-- a file of pages in memory. -/
structure PfR (w : World) (B : Nat) (o : Own1) (d pf : Nat) (n : List UInt8) : Prop where
  box : Blk w pf 106 #[.pointer (some ⟨d, 0, none⟩), .string ⟨n.toArray⟩, .int .u32 (crcS n)]
  free : o pf = none
  pB : B ≤ pf
section
variable {w w' : World} {B d pf : Nat} {o o' : Own1} {S : Dk} {c : Con} {n : List UInt8}
theorem PfR.ch (h : PfR w B o d pf n) (hc : Ch o w o' w') : PfR w' B o' d pf n := ⟨hc.blk h.box h.free, hc.free _ h.box.lt h.free, h.pB⟩
theorem PfR.ext (h : PfR w B o d pf n) (hg : w.grownBy w' none) : PfR w' B o d pf n := h.ch (Ch.ext hg)
theorem PfR.cells (h : PfR w B o d pf n) : w.cell? ⟨pf, 0, none⟩ = some (.pointer (some ⟨d, 0, none⟩)) ∧ w.cell? ⟨pf, 1, none⟩ = some (.string ⟨n.toArray⟩) ∧ w.cell? ⟨pf, 2, none⟩ = some (.int .u32 (crcS n)) := ⟨h.box.cell 0, h.box.cell 1, h.box.cell 2⟩
theorem made_any (d : Nat) (n : List UInt8) (hn : n.length ≤ 1000000000) (w : World) :
    Calls Try.prog 56 #[.pointer (some ⟨d, 0, none⟩), .string ⟨n.toArray⟩] w fun e w' => ∃ pf, e = .returned (.pointer (some ⟨pf, 0, none⟩)) ∧ w.heap.size ≤ pf ∧ Blk w' pf 106 #[.pointer (some ⟨d, 0, none⟩), .string ⟨n.toArray⟩, .int .u32 (crcS n)] ∧ w.grownBy w' none := by
  have HT := Lib.hid (tag_any n hn)
  go_enter Try.func56, Try.ntmps56
  go_wp2_with fail
  refine (HT.out _).mono ?_
  rintro e w1 ⟨rfl, g1⟩
  have G1 := Lib.hid g1
  clear g1
  go_wp2
  go_ret
  exact ⟨_, rfl, G1.out.size, Blk.new _ _ _, gr_none G1.out (gr_alloc _ _ none)⟩
/-- how many pages, or an error. -/
def Dk.ppages (S : Dk) (n : List UInt8) : Nat × Nat := ((S.size n).1 / 256, (S.size n).2)
theorem size_le (h : DI w B o d S c) (n : List UInt8) : (S.size n).1 ≤ 16777216 ∧ (S.size n).2 ≤ 9 := by
  unfold Dk.size
  split
  · simp
  · split
    · simp
    · split
      · simp
      · next f hf => exact ⟨(h.file f (find_some hf).1).small.2.1, by simp⟩
theorem pages_any (h : DI w B o d S c) (hp : PfR w B o d pf n) (hn : n.length ≤ 1000000000) :
    Calls Try.prog 53 #[.pointer (some ⟨pf, 0, none⟩)] w fun e w' => e = .returned (.tuple #[.int .i64 (S.ppages n).1, .int .i64 (S.ppages n).2]) ∧ w.grownBy w' none := by
  have HS : Hid (∀ wx, w.grownBy wx none → Calls Try.prog 67 #[.pointer (some ⟨d, 0, none⟩), .string ⟨n.toArray⟩] wx fun e w' => e = .returned (.tuple #[.int .i64 (S.size n).1, .int .i64 (S.size n).2]) ∧ wx.grownBy w' none) := fun wx hg => size_any (h.ext hg) n hn
  have hsz := (size_le h n).1
  have HK : Hid (∀ wx, w.grownBy wx none → wx.cell? ⟨pf, 0, none⟩ = some (.pointer (some ⟨d, 0, none⟩)) ∧ wx.cell? ⟨pf, 1, none⟩ = some (.string ⟨n.toArray⟩)) := fun wx hg => ⟨(hp.ext hg).cells.1, (hp.ext hg).cells.2.1⟩
  have HE : Hid ((((S.size n).1 : Nat) : Int) / 256 = ((S.ppages n).1 : Nat)) := by show _ = _; unfold Dk.ppages; push_cast; rfl
  have HE2 : Hid ((S.size n).2 = (S.ppages n).2) := rfl
  have kk := HK.out w (gr_refl _ _)
  rw [← HE2.out, ← HE.out]
  clear h hp HE HE2
  generalize (S.size n).1 = a at *
  generalize (S.size n).2 = b at *
  go_enter Try.func53, Try.ntmps53
  go_wp2
  go_region_held3 (fun w' => w'.cell? ⟨pf, 0, none⟩ = some (.pointer (some ⟨d, 0, none⟩)) ∧ w'.cell? ⟨pf, 1, none⟩ = some (.string ⟨n.toArray⟩)) (go_keep) (first
    | (go_at_call 67; (with_reducible refine (HS.out _ ?_).mono ?_); (first | exact gr_drew _ _ | exact gr_refl _ _); rintro e w1 ⟨rfl, g1⟩; have kk1 := HK.out _ (gr_trans (gr_drew _ _) g1 (.inl rfl))))
  go_wp2
  go_ret2
  exact ⟨rfl, gr_trans (gr_drew _ _) g1 (.inl rfl)⟩
theorem psync_any (h : DI w B o d S c) (hp : PfR w B o d pf n) (hn : n.length ≤ 1000000000) :
    Calls Try.prog 44 #[.pointer (some ⟨pf, 0, none⟩)] w fun e w' => e = .returned (.int .i64 (S.sync n).2) ∧ DOut o w B d (S.sync n).1 w' := by
  have HS : Hid (∀ wx, w.grownBy wx none → Calls Try.prog 61 #[.pointer (some ⟨d, 0, none⟩), .string ⟨n.toArray⟩] wx fun e w' => e = .returned (.int .i64 (S.sync n).2) ∧ DOut o wx B d (S.sync n).1 w') := fun wx hg => sync_any (h.ext hg) n hn
  have HP := Lib.hid hp
  have kk := And.intro hp.cells.1 hp.cells.2.1
  clear h hp
  go_enter Try.func44, Try.ntmps44
  go_wp2
  go_region_held3 (fun w' => w'.cell? ⟨pf, 0, none⟩ = some (.pointer (some ⟨d, 0, none⟩)) ∧ w'.cell? ⟨pf, 1, none⟩ = some (.string ⟨n.toArray⟩)) (go_keep) (first
    | (go_at_call 61; (with_reducible refine (HS.out _ ?_).mono ?_); (first | exact gr_drew _ _ | exact gr_refl _ _); rintro e w1 ⟨rfl, o1, c1, h1, ch1⟩; have kk1 := And.intro ((HP.out.ext (gr_drew _ none)).ch ch1).cells.1 ((HP.out.ext (gr_drew _ none)).ch ch1).cells.2.1))
  go_wp2
  go_ret
  exact ⟨rfl, o1, c1, h1, (Ch.ext (gr_drew _ _)).trans ch1⟩
end
end Go.Proofs.Ytkfokgjpeaibpaa
