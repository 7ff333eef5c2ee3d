/-
  Hub: sums and compares; labels that rise; a vertex' labels on a shelf.
-/
import Derived.Test.YtfgkmimhibpceaaHl
import Derived.Laws.Externs
namespace Go.Proofs.Ytfgkmimhibpceaa
open Go.RowKit
set_option maxRecDepth 100000
set_option maxHeartbeats 400000

theorem add64_law (x y : Nat) (w : World) : (callFunc 43 #[.int .u64 x, .int .u64 y, .int .u64 0]).run Try.prog w =
    .ok (.value (.tuple #[.int .u64 (((x + y) % 18446744073709551616 : Nat) : Int), .int .u64 (((x + y) / 18446744073709551616 : Nat) : Int)])) w := by
  rw [run_callFunc_extern Try.func43 (by kernel_rfl) (by kernel_rfl) (by kernel_rfl) (e := add64Entry) (by kernel_rfl), run_add64 x y 0 (by omega) (by omega) (by omega) (by omega)]
  simp only [Result.andThen]
  congr 5 <;> omega
/-- a sum below Far. -/
def addV (x y : Nat) : Value := .tuple #[.int .u64 ((if x + y < 9223372036854775808 then x + y else 0 : Nat) : Int), .bool (decide (x + y < 9223372036854775808))]
theorem addV_lt {x y : Nat} (h : x + y < 9223372036854775808) : addV x y = .tuple #[.int .u64 ((x + y : Nat) : Int), .bool true] := by simp [addV, h]
theorem addV_ge {x y : Nat} (h : ¬ x + y < 9223372036854775808) : addV x y = .tuple #[.int .u64 0, .bool false] := by simp [addV, h]
theorem addw_any (x y : Nat) (hx : x < 18446744073709551616) (hy : y < 18446744073709551616) (w : World) :
    Calls Try.prog 31 #[.int .u64 x, .int .u64 y] w fun e w' => e = .returned (addV x y) ∧ w = w' := by
  have HL := add64_law x y
  by_cases h1 : x + y < 9223372036854775808
  · have HV := Lib.hid (addV_lt h1)
    have e1 : (x + y) % 18446744073709551616 = x + y := by omega
    have e2 : (x + y) / 18446744073709551616 = 0 := by omega
    rw [e1, e2] at HL
    generalize hs : x + y = s at *
    have d1 : decide ((9223372036854775808 : Int) ≤ (s : Int)) = false := by simp; omega
    clear e1 e2 h1 hs hx hy
    go_enter Try.func31, Try.ntmps31
    go_wp2_with (simp only [HL])
    go_ret2
    exact ⟨by rw [HV.out]; rfl, rfl⟩
  · have HV := Lib.hid (addV_ge h1)
    by_cases h2 : x + y < 18446744073709551616
    · have e1 : (x + y) % 18446744073709551616 = x + y := by omega
      have e2 : (x + y) / 18446744073709551616 = 0 := by omega
      rw [e1, e2] at HL
      have d1 : decide ((9223372036854775808 : Int) ≤ ((x + y : Nat) : Int)) = true := by simp; omega
      generalize x + y = s at *
      clear e1 e2 h1 hx hy h2
      go_enter Try.func31, Try.ntmps31
      go_wp2_with (simp only [HL])
      go_ret2
      exact ⟨by rw [HV.out]; rfl, rfl⟩
    · have e2 : (x + y) / 18446744073709551616 = 1 := by omega
      rw [e2] at HL
      generalize (x + y) % 18446744073709551616 = s at *
      clear e2 h1 hx hy h2
      go_enter Try.func31, Try.ntmps31
      go_wp2_with (simp only [HL])
      go_ret2
      exact ⟨by rw [HV.out]; rfl, rfl⟩
theorem addr_any (x y : Nat) (hx : x < 18446744073709551616) (hy : y < 18446744073709551616) (w : World) :
    Calls Try.prog 25 #[.int .u64 x, .int .u64 y] w fun e w' => e = .returned (addV x y) ∧ w = w' := by
  by_cases h1 : x + y < 9223372036854775808
  · have HV := Lib.hid (addV_lt h1)
    have d0 : decide ((9223372036854775808 : Int) ≤ (x : Int)) = false := by simp; omega
    have e1 : IntKind.u64.wrap ((9223372036854775808 : Int) - (x : Int)) = 9223372036854775808 - (x : Int) := IntWalk.u64_in _ (by omega)
    have d2 : decide ((9223372036854775808 : Int) - (x : Int) ≤ (y : Int)) = false := by simp; omega
    have e2 : IntKind.u64.wrap ((x : Int) + (y : Int)) = ((x + y : Nat) : Int) := by rw [IntWalk.u64_in _ (by omega)]; simp
    clear h1 hx hy
    go_enter Try.func25, Try.ntmps25
    go_wp2
    go_ret2
    exact ⟨by rw [HV.out]; simp, rfl⟩
  · have HV := Lib.hid (addV_ge h1)
    by_cases h2 : x < 9223372036854775808
    · have d0 : decide ((9223372036854775808 : Int) ≤ (x : Int)) = false := by simp; omega
      have d2 : decide ((9223372036854775808 : Int) - (x : Int) ≤ (y : Int)) = true := by simp; omega
      have e1 : IntKind.u64.wrap ((9223372036854775808 : Int) - (x : Int)) = 9223372036854775808 - (x : Int) := IntWalk.u64_in _ (by omega)
      clear h1 h2 hx hy
      go_enter Try.func25, Try.ntmps25
      go_wp2
      go_ret2
      exact ⟨by rw [HV.out]; rfl, rfl⟩
    · have d0 : decide ((9223372036854775808 : Int) ≤ (x : Int)) = true := by simp; omega
      clear h1 h2 hx hy
      go_enter Try.func25, Try.ntmps25
      go_wp2
      go_ret2
      exact ⟨by rw [HV.out]; rfl, rfl⟩
/-- cmp.Compare. -/
def cmpN (x y : Nat) : Int := if x < y then -1 else if y < x then 1 else 0
theorem nan32 (x : Nat) (w : World) : Calls Try.prog 42 #[.int .u32 x] w fun e w' => e = .returned (.bool false) ∧ w = w' := by
  go_enter Try.func42, Try.ntmps42
  go_wp2
  go_ret
  exact ⟨by simp, rfl⟩
theorem cmp32 (x y : Nat) (w : World) : Calls Try.prog 30 #[.int .u32 x, .int .u32 y] w fun e w' => e = .returned (.int .i64 (cmpN x y)) ∧ w = w' := by
  have N := Lib.hid nan32
  rcases Nat.lt_trichotomy x y with h | h | h
  · have HV : Hid (cmpN x y = -1) := by show _ = _; simp [cmpN, h]
    go_enter Try.func30, Try.ntmps30
    go_wp2_with (go_at_call 42; refine (N.out _ _).mono ?_; rintro e w1 ⟨rfl, rfl⟩)
    go_ret
    exact ⟨by rw [HV.out]; rfl, rfl⟩
  · have HV : Hid (cmpN x y = 0) := by show _ = _; simp [cmpN, h]
    have h1 : ¬ x < y := by omega
    have h2 : ¬ y < x := by omega
    clear h
    go_enter Try.func30, Try.ntmps30
    go_wp2_with (go_at_call 42; refine (N.out _ _).mono ?_; rintro e w1 ⟨rfl, rfl⟩)
    go_ret
    exact ⟨by rw [HV.out]; rfl, rfl⟩
  · have HV : Hid (cmpN x y = 1) := by show _ = _; rw [cmpN, if_neg (by omega), if_pos h]
    have h1 : ¬ x < y := by omega
    go_enter Try.func30, Try.ntmps30
    go_wp2_with (go_at_call 42; refine (N.out _ _).mono ?_; rintro e w1 ⟨rfl, rfl⟩)
    go_ret
    exact ⟨by rw [HV.out]; rfl, rfl⟩
theorem nan64 (x : Nat) (w : World) : Calls Try.prog 41 #[.int .u64 x] w fun e w' => e = .returned (.bool false) ∧ w = w' := by
  go_enter Try.func41, Try.ntmps41
  go_wp2
  go_ret
  exact ⟨by simp, rfl⟩
theorem cmp64 (x y : Nat) (w : World) : Calls Try.prog 29 #[.int .u64 x, .int .u64 y] w fun e w' => e = .returned (.int .i64 (cmpN x y)) ∧ w = w' := by
  have N := Lib.hid nan64
  rcases Nat.lt_trichotomy x y with h | h | h
  · have HV : Hid (cmpN x y = -1) := by show _ = _; simp [cmpN, h]
    go_enter Try.func29, Try.ntmps29
    go_wp2_with (go_at_call 41; refine (N.out _ _).mono ?_; rintro e w1 ⟨rfl, rfl⟩)
    go_ret
    exact ⟨by rw [HV.out]; rfl, rfl⟩
  · have HV : Hid (cmpN x y = 0) := by show _ = _; simp [cmpN, h]
    have h1 : ¬ x < y := by omega
    have h2 : ¬ y < x := by omega
    clear h
    go_enter Try.func29, Try.ntmps29
    go_wp2_with (go_at_call 41; refine (N.out _ _).mono ?_; rintro e w1 ⟨rfl, rfl⟩)
    go_ret
    exact ⟨by rw [HV.out]; rfl, rfl⟩
  · have HV : Hid (cmpN x y = 1) := by show _ = _; rw [cmpN, if_neg (by omega), if_pos h]
    have h1 : ¬ x < y := by omega
    go_enter Try.func29, Try.ntmps29
    go_wp2_with (go_at_call 41; refine (N.out _ _).mono ?_; rintro e w1 ⟨rfl, rfl⟩)
    go_ret
    exact ⟨by rw [HV.out]; rfl, rfl⟩
/-- cmp.Or of two. -/
def orV (a b : Int) : Int := if a = 0 then b else a
theorem or_any (a b : Int) (v : Value) (w : World) (h : Rd w 1 v 2 [.int .i64 a, .int .i64 b]) :
    Calls Try.prog 28 #[v] w fun e w' => e = .returned (.int .i64 (orV a b)) ∧ w = w' := by
  obtain ⟨_, A, c, g, off, rfl, hn, hc, _, hA, hx⟩ := h
  obtain rfl := hA (by omega)
  have c0 : w.cell? ⟨g, off, none⟩ = some (.int .i64 a) := hx 0 (by omega)
  have c1 : w.cell? ⟨g, off + 1, none⟩ = some (.int .i64 b) := hx 1 (by omega)
  clear hA hx hc
  go_enter Try.func28, Try.ntmps28
  go_wp2
  go_loopw [8, 5] (fun i _ wr => ((i = .int .i64 0) ∨ (i = .int .i64 1 ∧ a = 0) ∨ (i = .int .i64 2 ∧ a = 0 ∧ b = 0)) ∧ w = wr) (fun i _ _ => 2 - (intOf i).toNat)
  case atStart => exact ⟨.inl rfl, rfl⟩
  case round =>
    obtain ⟨hi, rfl⟩ := hrel
    rcases hi with rfl | ⟨rfl, ha⟩ | ⟨rfl, ha, hb⟩
    · by_cases ha : a = 0
      · have d1 : (a != 0) = false := by simp [ha]
        have HA := Lib.hid ha
        clear ha
        go_wp2
        go_roundw
        case rel => exact ⟨.inr (.inl ⟨rfl, HA.out⟩), by first | rfl | trivial⟩
        case measure => simp [intOf]
      · have d1 : (a != 0) = true := by simp [ha]
        have HV : Hid (orV a b = a) := by show _ = _; rw [orV, if_neg ha]
        clear ha
        go_wp2
        go_ret
        exact ⟨by rw [HV.out]; rfl, rfl⟩
    · have HV : Hid (orV a b = b) := by show _ = _; rw [orV, if_pos ha]
      have HA := Lib.hid ha
      clear ha
      by_cases hb : b = 0
      · have d1 : (b != 0) = false := by simp [hb]
        have HB := Lib.hid hb
        clear hb
        go_wp2
        go_roundw
        case rel => exact ⟨.inr (.inr ⟨rfl, HA.out, HB.out⟩), by first | rfl | trivial⟩
        case measure => simp [intOf]
      · have d1 : (b != 0) = true := by simp [hb]
        clear hb
        go_wp2
        go_ret
        exact ⟨by rw [HV.out]; rfl, rfl⟩
    · have HV : Hid (orV a b = 0) := by show _ = _; rw [orV, if_pos ha, hb]
      clear ha hb
      go_wp2
      go_ret
      exact ⟨by rw [HV.out]; rfl, rfl⟩
end Go.Proofs.Ytfgkmimhibpceaa
