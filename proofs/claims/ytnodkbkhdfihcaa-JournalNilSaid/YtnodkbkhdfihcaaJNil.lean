/-
  JournalNil, the walk: no disk, no journal.
-/
import Derived.Test.YtnodkbkhdfihcaaJ6
namespace Go.Proofs.Ytnodkbkhdfihcaa
open Go.RowKit
set_option maxRecDepth 100000
set_option maxHeartbeats 400000

theorem size_nil (w : World) (n : List UInt8) : Calls Try.prog 17 #[.pointer none, .string ⟨n.toArray⟩] w fun e w' => e = .returned (.tuple #[.int .i64 0, .int .i64 2]) ∧ w = w' := by
  go_enter Try.func17, Try.ntmps17
  go_wp2_with fail
  refine (look_nil _).mono ?_
  rintro e w1 ⟨rfl, rfl⟩
  go_wp2
  go_ret2
  exact ⟨rfl, rfl⟩
theorem open_nil (w : World) : Calls Try.prog 16 #[.pointer none] w fun e w' => e = .returned (.tuple #[.pointer none, .int .i64 2]) ∧ w = w' := by
  go_enter Try.func16, Try.ntmps16
  go_wp2_with fail
  refine (size_nil _ jn).mono ?_
  rintro e w1 ⟨rfl, rfl⟩
  go_wp2
  go_ret2
  exact ⟨rfl, rfl⟩
theorem add_nil (k a b : UInt32) (w : World) : Calls Try.prog 24 #[.pointer none, .agg #[.int .u32 k.toNat, .int .u32 a.toNat, .int .u32 b.toNat]] w fun e w' => e = .returned (.int .i64 2) ∧ w.grownBy w' none := by
  go_enter Try.func24, Try.ntmps24
  go_wp2
  go_ret
  exact ⟨rfl, gr_alloc _ _ _⟩
theorem back_nil (n : Int) (w : World) : Calls Try.prog 25 #[.pointer none, .int .i64 n] w fun e w' => e = .returned (.int .i64 2) ∧ w = w' := by
  go_enter Try.func25, Try.ntmps25
  go_wp2
  go_ret
  exact ⟨rfl, rfl⟩
theorem nil_any (k a b : UInt32) (n : Int) (w : World) :
    Calls Try.prog 6 #[.agg #[.int .u32 k.toNat, .int .u32 a.toNat, .int .u32 b.toNat], .int .i64 n] w fun e w' => e = .returned (.bool true) ∧ w.grownBy w' none := by
  go_enter Try.func6, Try.ntmps6
  go_wp2_with fail
  refine (open_nil _).mono ?_
  rintro e w1 ⟨rfl, rfl⟩
  go_wp2_with fail
  refine (add_nil k a b _).mono ?_
  rintro e w1 ⟨rfl, g1⟩
  have G1 := Lib.hid (gr_none (r := none) (gr_alloc _ _ _) g1)
  clear g1
  go_wp2_with fail
  refine (back_nil _ _).mono ?_
  rintro e w1 ⟨rfl, rfl⟩
  go_wp2_with fail
  refine (recs_nil _).mono ?_
  rintro e w1 ⟨rfl, rfl⟩
  go_wp2_with (go_at_call 10; refine (works_any _).mono ?_; rintro e w14 ⟨rfl, g14⟩)
  go_ret
  exact ⟨rfl, gr_none G1.out g14⟩
end Go.Proofs.Ytnodkbkhdfihcaa
