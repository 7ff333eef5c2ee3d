/-
  PoolNil: what is done with a pool, in memory; vast; no pool.
-/
import Derived.Test.YtkfokgjpeaibpaaGreatPo6
namespace Go.Proofs.YtkfokgjpeaibpaaGreat
open Go.RowKit Go.Maps
set_option maxRecDepth 100000
set_option maxHeartbeats 400000

structure OpQ where
  kind : Int
  name : List UInt8
  k : Int
  bv : Value
  b : List UInt8
def OpQ.cells (o : OpQ) : List Value := [.int .i64 o.kind, .string ⟨o.name.toArray⟩, .int .i64 o.k, o.bv]
structure OpQk (w : World) (o : OpQ) : Prop where
  b : RdB w o.bv o.b
  kind : -9223372036854775808 ≤ o.kind ∧ o.kind ≤ 9223372036854775807
  k : -9223372036854775808 ≤ o.k ∧ o.k ≤ 9223372036854775807
  name : o.name.length ≤ maxLen
theorem OpQk.ext {w w' : World} {o : OpQ} (h : OpQk w o) (g : w.grownBy w' none) : OpQk w' o := { h with b := h.b.ext g }
set_option maxHeartbeats 2000000 in
/-- one thing done: is it more than a statement plays? -/
theorem vast1_any (o : OpQ) (g0 : Nat) (w : World) (h : OpQk w o) (hb : Blk w g0 35 o.cells.toArray) :
    Calls Tryz.prog 8 #[.int .i64 1, .slice (some ⟨g0, 0, none⟩) 1 1] w fun e w' => (∃ b, e = .returned (.bool b) ∧ Hid (b = false → o.b.length ≤ 65536)) ∧ ∃ q, w' = w.drewN q := by
  obtain ⟨kind, name, k, bv, b⟩ := o
  obtain ⟨Ab, cb, rfl⟩ : ∃ Ab cb, bv = .slice Ab b.length cb := h.b.form
  have hnm : name.length ≤ maxLen := h.name
  have hbr : RdB w (.slice Ab b.length cb) b := h.b
  have hbc : b.length ≤ maxLen := by obtain ⟨_, _, _, _, _, e, h1, h2, _⟩ := hbr; cases e; omega
  have c1 : w.cell? ⟨g0, 1, none⟩ = some (.string ⟨name.toArray⟩) := hb.cell 1
  have c3 : w.cell? ⟨g0, 3, none⟩ = some (.slice Ab b.length cb) := hb.cell 3
  obtain ⟨x1, e1⟩ : ∃ x1 : Nat, x1 = min b.length 131072 := ⟨_, rfl⟩
  obtain ⟨x2, e2⟩ : ∃ x2 : Nat, x2 = min name.length 131072 := ⟨_, rfl⟩
  have m1 : min (b.length : Int) 131072 = (x1 : Int) := by omega
  have m2 : min (name.length : Int) 131072 = (x2 : Int) := by omega
  have b1 : x1 ≤ 131072 ∧ x2 ≤ 131072 := by omega
  have s1 : IntKind.i64.wrap (x1 : Int) = (x1 : Int) := by rw [IntWalk.i64_in _ (by omega)]
  have s2 : IntKind.i64.wrap ((x1 : Int) + (x2 : Int)) = (x1 : Int) + (x2 : Int) := by rw [IntWalk.i64_in _ (by omega)]
  have HSM : Hid (x1 + x2 ≤ 65536 → b.length ≤ 65536) := fun h => by omega
  have C1 := Lib.hid c1
  have C3 := Lib.hid c3
  clear h hb hbr e1 e2 c1 c3
  go_enter Tryz.func8, Tryz.ntmps8
  go_wp2
  go_loopw [5, 6] (fun s i wr => ((i = .int .i64 0 ∧ s = .int .i64 0) ∨ (i = .int .i64 1 ∧ Hid (b.length ≤ 65536))) ∧ DrewS w wr) (fun _ i _ => 1 - (intOf i).toNat)
  case atStart => exact ⟨.inl ⟨rfl, rfl⟩, 0, rfl⟩
  case round =>
    obtain ⟨hc, q0, hq0⟩ := hrel
    have HQ0 := Lib.hid hq0
    clear hq0
    rcases hc with ⟨rfl, rfl⟩ | ⟨rfl, hsm⟩
    · have c1 : wr.cell? ⟨g0, 1, none⟩ = some (.string ⟨name.toArray⟩) := by rw [HQ0.out]; exact C1.out
      have c3 : wr.cell? ⟨g0, 3, none⟩ = some (.slice Ab b.length cb) := by rw [HQ0.out]; exact C3.out
      go_wp2_with fail
      go_quiet (fail)
      by_cases hov : 65536 < x1 + x2
      · have hd : decide ((65536 : Int) < (x1 : Int) + (x2 : Int)) = true := by simp; omega
        clear hov
        go_wp2
        go_ret
        exact ⟨⟨true, rfl, fun e => by cases e⟩, q0 + nq, by rw [HQ0.out, World.drewN_drewN]⟩
      · have hd : decide ((65536 : Int) < (x1 : Int) + (x2 : Int)) = false := by simp; omega
        have HS : Hid (b.length ≤ 65536) := HSM.out (by omega)
        clear hov
        go_wp2
        go_roundw
        case rel => exact ⟨.inr ⟨by go_num, HS⟩, q0 + nq, by rw [HQ0.out, World.drewN_drewN]⟩
        case measure => simp [intOf] <;> omega
    · go_wp2
      go_ret
      exact ⟨⟨false, rfl, fun _ => hsm.out⟩, q0, HQ0.out⟩
/-! no pool -/
theorem pnew_nil (w : World) : Calls Tryz.prog 11 #[.pointer none, .int .i64 4] w fun e w' => e = .returned (.tuple #[.pointer none, .int .i64 2]) ∧ w = w' := by
  go_enter Tryz.func11, Tryz.ntmps11
  go_wp2
  go_ret2
  exact ⟨rfl, rfl⟩
theorem pheld_nil (w : World) : Calls Tryz.prog 22 #[.pointer none] w fun e w' => e = .returned (.tuple #[.int .i64 0, .int .i64 0, .int .i64 0]) ∧ w = w' := by
  go_enter Tryz.func22, Tryz.ntmps22
  go_wp2
  go_ret3
  exact ⟨rfl, rfl⟩
theorem ppeak_nil (w : World) : Calls Tryz.prog 23 #[.pointer none] w fun e w' => e = .returned (.tuple #[.int .i64 0, .int .i64 0]) ∧ w = w' := by
  go_enter Tryz.func23, Tryz.ntmps23
  go_wp2
  go_ret2
  exact ⟨rfl, rfl⟩
theorem pdisk_nil (w : World) : Calls Tryz.prog 24 #[.pointer none] w fun e w' => e = .returned (.pointer none) ∧ w = w' := by
  go_enter Tryz.func24, Tryz.ntmps24
  go_wp2
  go_ret
  exact ⟨rfl, rfl⟩
theorem pframes_nil (w : World) : Calls Tryz.prog 25 #[.pointer none] w fun e w' => e = .returned (.int .i64 0) ∧ w = w' := by
  go_enter Tryz.func25, Tryz.ntmps25
  go_wp2
  go_ret
  exact ⟨rfl, rfl⟩
theorem pcreate_nil (w : World) (s : ByteArray) : Calls Tryz.prog 32 #[.pointer none, .string s] w fun e w' => e = .returned (.int .i64 2) ∧ w = w' := by
  go_enter Tryz.func32, Tryz.ntmps32
  go_wp2
  go_ret
  exact ⟨rfl, rfl⟩
theorem pdrop_nil (w : World) (s : ByteArray) : Calls Tryz.prog 31 #[.pointer none, .string s] w fun e w' => e = .returned (.int .i64 2) ∧ w = w' := by
  go_enter Tryz.func31, Tryz.ntmps31
  go_wp2
  go_ret
  exact ⟨rfl, rfl⟩
theorem pflush_nil (w : World) (s : ByteArray) : Calls Tryz.prog 16 #[.pointer none, .string s] w fun e w' => e = .returned (.int .i64 2) ∧ w = w' := by
  go_enter Tryz.func16, Tryz.ntmps16
  go_wp2
  go_ret
  exact ⟨rfl, rfl⟩
theorem ppages_nil (w : World) (s : ByteArray) : Calls Tryz.prog 20 #[.pointer none, .string s] w fun e w' => e = .returned (.tuple #[.int .i64 0, .int .i64 2]) ∧ w = w' := by
  go_enter Tryz.func20, Tryz.ntmps20
  go_wp2
  go_ret2
  exact ⟨rfl, rfl⟩
theorem punpin_nil (w : World) (s : ByteArray) (k : Int) : Calls Tryz.prog 36 #[.pointer none, .string s, .int .i64 k] w fun e w' => e = .returned (.int .i64 2) ∧ w = w' := by
  go_enter Tryz.func36, Tryz.ntmps36
  go_wp2
  go_ret
  exact ⟨rfl, rfl⟩
theorem ppin_nil (w : World) (s : ByteArray) (k : Int) : Calls Tryz.prog 34 #[.pointer none, .string s, .int .i64 k] w fun e w' => e = .returned (.tuple #[.slice none 0 0, .int .i64 2]) ∧ w = w' := by
  go_enter Tryz.func34, Tryz.ntmps34
  go_wp2
  go_ret2
  exact ⟨rfl, rfl⟩
theorem pread_nil (w : World) (s : ByteArray) (k : Int) : Calls Tryz.prog 21 #[.pointer none, .string s, .int .i64 k] w fun e w' => e = .returned (.tuple #[.slice none 0 0, .int .i64 2]) ∧ w = w' := by
  go_enter Tryz.func21, Tryz.ntmps21
  go_wp2
  go_ret2
  exact ⟨rfl, rfl⟩
theorem pwrite_nil (w : World) (s : ByteArray) (k : Int) (v : Value) : Calls Tryz.prog 33 #[.pointer none, .string s, .int .i64 k, v] w fun e w' => e = .returned (.int .i64 2) ∧ w = w' := by
  go_enter Tryz.func33, Tryz.ntmps33
  go_wp2
  go_ret
  exact ⟨rfl, rfl⟩
end Go.Proofs.YtkfokgjpeaibpaaGreat
