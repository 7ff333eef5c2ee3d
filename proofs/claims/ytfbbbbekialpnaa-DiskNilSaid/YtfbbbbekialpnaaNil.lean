/-
  No disk: what each operation answers.
-/
import Derived.Test.YtfbbbbekialpnaaDw1
namespace Go.Proofs.Ytfbbbbekialpnaa
open Go.RowKit
set_option maxRecDepth 100000
set_option maxHeartbeats 400000

theorem create_dnil (n : ByteArray) (w : World) : Calls Try.prog 17 #[.pointer none, .string n] w fun e w' => e = .returned (.int .i64 2) ∧ w.grownBy w' none := by
  go_enter Try.func17, Try.ntmps17
  go_wp2_with (first | (go_at_call 59; refine (begin_nil _).mono ?_; rintro e w1 ⟨rfl, rfl⟩) | (go_at_call 65; refine (look_nil _).mono ?_; rintro e w1 ⟨rfl, rfl⟩))
  go_ret
  exact ⟨rfl, by first | exact gr_refl _ _ | exact gr_alloc _ _ _⟩
theorem remove_dnil (n : ByteArray) (w : World) : Calls Try.prog 78 #[.pointer none, .string n] w fun e w' => e = .returned (.int .i64 2) ∧ w.grownBy w' none := by
  go_enter Try.func78, Try.ntmps78
  go_wp2_with (first | (go_at_call 59; refine (begin_nil _).mono ?_; rintro e w1 ⟨rfl, rfl⟩) | (go_at_call 65; refine (look_nil _).mono ?_; rintro e w1 ⟨rfl, rfl⟩))
  go_ret
  exact ⟨rfl, by first | exact gr_refl _ _ | exact gr_alloc _ _ _⟩
theorem rename_dnil (n t : ByteArray) (w : World) : Calls Try.prog 45 #[.pointer none, .string n, .string t] w fun e w' => e = .returned (.int .i64 2) ∧ w.grownBy w' none := by
  go_enter Try.func45, Try.ntmps45
  go_wp2_with (first | (go_at_call 59; refine (begin_nil _).mono ?_; rintro e w1 ⟨rfl, rfl⟩) | (go_at_call 65; refine (look_nil _).mono ?_; rintro e w1 ⟨rfl, rfl⟩))
  go_ret
  exact ⟨rfl, by first | exact gr_refl _ _ | exact gr_alloc _ _ _⟩
theorem write_dnil (n : ByteArray) (o : Int) (b : Value) (w : World) : Calls Try.prog 18 #[.pointer none, .string n, .int .i64 o, b] w fun e w' => e = .returned (.int .i64 2) ∧ w.grownBy w' none := by
  go_enter Try.func18, Try.ntmps18
  go_wp2_with (first | (go_at_call 59; refine (begin_nil _).mono ?_; rintro e w1 ⟨rfl, rfl⟩) | (go_at_call 65; refine (look_nil _).mono ?_; rintro e w1 ⟨rfl, rfl⟩))
  go_ret
  exact ⟨rfl, by first | exact gr_refl _ _ | exact gr_alloc _ _ _⟩
theorem cut_dnil (n : ByteArray) (k : Int) (w : World) : Calls Try.prog 27 #[.pointer none, .string n, .int .i64 k] w fun e w' => e = .returned (.int .i64 2) ∧ w.grownBy w' none := by
  go_enter Try.func27, Try.ntmps27
  go_wp2_with (first | (go_at_call 59; refine (begin_nil _).mono ?_; rintro e w1 ⟨rfl, rfl⟩) | (go_at_call 65; refine (look_nil _).mono ?_; rintro e w1 ⟨rfl, rfl⟩))
  go_ret
  exact ⟨rfl, by first | exact gr_refl _ _ | exact gr_alloc _ _ _⟩
theorem sync_dnil (n : ByteArray) (w : World) : Calls Try.prog 20 #[.pointer none, .string n] w fun e w' => e = .returned (.int .i64 2) ∧ w.grownBy w' none := by
  go_enter Try.func20, Try.ntmps20
  go_wp2_with (first | (go_at_call 59; refine (begin_nil _).mono ?_; rintro e w1 ⟨rfl, rfl⟩) | (go_at_call 65; refine (look_nil _).mono ?_; rintro e w1 ⟨rfl, rfl⟩))
  go_ret
  exact ⟨rfl, by first | exact gr_refl _ _ | exact gr_alloc _ _ _⟩
theorem read_dnil (n : ByteArray) (o k : Int) (w : World) : Calls Try.prog 22 #[.pointer none, .string n, .int .i64 o, .int .i64 k] w fun e w' => e = .returned (.tuple #[.slice none 0 0, .int .i64 2]) ∧ w.grownBy w' none := by
  go_enter Try.func22, Try.ntmps22
  go_wp2_with (first | (go_at_call 59; refine (begin_nil _).mono ?_; rintro e w1 ⟨rfl, rfl⟩) | (go_at_call 65; refine (look_nil _).mono ?_; rintro e w1 ⟨rfl, rfl⟩))
  go_ret2
  exact ⟨rfl, by first | exact gr_refl _ _ | exact gr_alloc _ _ _⟩
theorem size_dnil (n : ByteArray) (w : World) : Calls Try.prog 21 #[.pointer none, .string n] w fun e w' => e = .returned (.tuple #[.int .i64 0, .int .i64 2]) ∧ w.grownBy w' none := by
  go_enter Try.func21, Try.ntmps21
  go_wp2_with (first | (go_at_call 59; refine (begin_nil _).mono ?_; rintro e w1 ⟨rfl, rfl⟩) | (go_at_call 65; refine (look_nil _).mono ?_; rintro e w1 ⟨rfl, rfl⟩))
  go_ret2
  exact ⟨rfl, by first | exact gr_refl _ _ | exact gr_alloc _ _ _⟩
theorem quota_dnil (n : Int) (w : World) : Calls Try.prog 79 #[.pointer none, .int .i64 n] w fun e w' => e = .returned (.int .i64 2) ∧ w.grownBy w' none := by
  go_enter Try.func79, Try.ntmps79
  go_wp2_with (first | (go_at_call 59; refine (begin_nil _).mono ?_; rintro e w1 ⟨rfl, rfl⟩) | (go_at_call 65; refine (look_nil _).mono ?_; rintro e w1 ⟨rfl, rfl⟩))
  go_ret
  exact ⟨rfl, by first | exact gr_refl _ _ | exact gr_alloc _ _ _⟩
theorem arm_dnil (n : Int) (w : World) : Calls Try.prog 24 #[.pointer none, .int .i64 n] w fun e w' => e = .returned (.int .i64 2) ∧ w.grownBy w' none := by
  go_enter Try.func24, Try.ntmps24
  go_wp2_with (first | (go_at_call 59; refine (begin_nil _).mono ?_; rintro e w1 ⟨rfl, rfl⟩) | (go_at_call 65; refine (look_nil _).mono ?_; rintro e w1 ⟨rfl, rfl⟩))
  go_ret
  exact ⟨rfl, by first | exact gr_refl _ _ | exact gr_alloc _ _ _⟩
theorem on_dnil (k : Value) (w : World) : Calls Try.prog 25 #[.pointer none, k] w fun e w' => e = .returned (.int .i64 2) ∧ w.grownBy w' none := by
  go_enter Try.func25, Try.ntmps25
  go_wp2_with (first | (go_at_call 59; refine (begin_nil _).mono ?_; rintro e w1 ⟨rfl, rfl⟩) | (go_at_call 65; refine (look_nil _).mono ?_; rintro e w1 ⟨rfl, rfl⟩))
  go_ret
  exact ⟨rfl, by first | exact gr_refl _ _ | exact gr_alloc _ _ _⟩
theorem flip_dnil (n : ByteArray) (o : Int) (m : Int) (w : World) : Calls Try.prog 80 #[.pointer none, .string n, .int .i64 o, .int .u8 m] w fun e w' => e = .returned (.int .i64 2) ∧ w.grownBy w' none := by
  go_enter Try.func80, Try.ntmps80
  go_wp2_with (first | (go_at_call 59; refine (begin_nil _).mono ?_; rintro e w1 ⟨rfl, rfl⟩) | (go_at_call 65; refine (look_nil _).mono ?_; rintro e w1 ⟨rfl, rfl⟩))
  go_ret
  exact ⟨rfl, by first | exact gr_refl _ _ | exact gr_alloc _ _ _⟩
theorem names_dnil  (w : World) : Calls Try.prog 58 #[.pointer none] w fun e w' => e = .returned (.slice none 0 0) ∧ w.grownBy w' none := by
  go_enter Try.func58, Try.ntmps58
  go_wp2_with (first | (go_at_call 59; refine (begin_nil _).mono ?_; rintro e w1 ⟨rfl, rfl⟩) | (go_at_call 65; refine (look_nil _).mono ?_; rintro e w1 ⟨rfl, rfl⟩))
  go_ret
  exact ⟨rfl, by first | exact gr_refl _ _ | exact gr_alloc _ _ _⟩
theorem loose_dnil  (w : World) : Calls Try.prog 23 #[.pointer none] w fun e w' => e = .returned (.slice none 0 0) ∧ w.grownBy w' none := by
  go_enter Try.func23, Try.ntmps23
  go_wp2_with (first | (go_at_call 59; refine (begin_nil _).mono ?_; rintro e w1 ⟨rfl, rfl⟩) | (go_at_call 65; refine (look_nil _).mono ?_; rintro e w1 ⟨rfl, rfl⟩))
  go_ret
  exact ⟨rfl, by first | exact gr_refl _ _ | exact gr_alloc _ _ _⟩
theorem used_dnil  (w : World) : Calls Try.prog 52 #[.pointer none] w fun e w' => e = .returned (.int .i64 0) ∧ w.grownBy w' none := by
  go_enter Try.func52, Try.ntmps52
  go_wp2_with (first | (go_at_call 59; refine (begin_nil _).mono ?_; rintro e w1 ⟨rfl, rfl⟩) | (go_at_call 65; refine (look_nil _).mono ?_; rintro e w1 ⟨rfl, rfl⟩))
  go_ret
  exact ⟨rfl, by first | exact gr_refl _ _ | exact gr_alloc _ _ _⟩
theorem dead_dnil  (w : World) : Calls Try.prog 34 #[.pointer none] w fun e w' => e = .returned (.bool false) ∧ w.grownBy w' none := by
  go_enter Try.func34, Try.ntmps34
  go_wp2_with (first | (go_at_call 59; refine (begin_nil _).mono ?_; rintro e w1 ⟨rfl, rfl⟩) | (go_at_call 65; refine (look_nil _).mono ?_; rintro e w1 ⟨rfl, rfl⟩))
  go_ret
  exact ⟨rfl, by first | exact gr_refl _ _ | exact gr_alloc _ _ _⟩
end Go.Proofs.Ytfbbbbekialpnaa
