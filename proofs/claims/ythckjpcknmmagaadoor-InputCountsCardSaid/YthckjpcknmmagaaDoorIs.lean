/-
  Compares; which edge is better; which is ahead.
-/
import Derived.Test.YthckjpcknmmagaaDoorIp
import Derived.Laws.Externs
import Derived.Deep.QuietTactic
import Derived.Deep.RegionHeld3
namespace Go.Proofs.YthckjpcknmmagaaDoor.R
open Go.RowKit
set_option maxRecDepth 100000
set_option maxHeartbeats 400000

/-- cmp.Compare. -/
def cmpN (x y : Nat) : Int := if x < y then -1 else if y < x then 1 else 0
theorem nan32 (x : Nat) (w : World) : Calls Tryd.prog 32 #[.int .u32 x] w fun e w' => e = .returned (.bool false) ∧ w = w' := by
  go_enter Tryd.func32, Tryd.ntmps32
  go_wp2
  go_ret
  exact ⟨by simp, rfl⟩
theorem cmp32 (x y : Nat) (w : World) : Calls Tryd.prog 18 #[.int .u32 x, .int .u32 y] w fun e w' => e = .returned (.int .i64 (cmpN x y)) ∧ w = w' := by
  have N := Lib.hid nan32
  rcases Nat.lt_trichotomy x y with h | h | h
  · have HV : Hid (cmpN x y = -1) := by show _ = _; simp [cmpN, h]
    go_enter Tryd.func18, Tryd.ntmps18
    go_wp2_with (go_at_call 32; refine (N.out _ _).mono ?_; rintro e w1 ⟨rfl, rfl⟩)
    go_ret
    exact ⟨by rw [HV.out]; rfl, rfl⟩
  · have HV : Hid (cmpN x y = 0) := by show _ = _; simp [cmpN, h]
    have h1 : ¬ x < y := by omega
    have h2 : ¬ y < x := by omega
    clear h
    go_enter Tryd.func18, Tryd.ntmps18
    go_wp2_with (go_at_call 32; refine (N.out _ _).mono ?_; rintro e w1 ⟨rfl, rfl⟩)
    go_ret
    exact ⟨by rw [HV.out]; rfl, rfl⟩
  · have HV : Hid (cmpN x y = 1) := by show _ = _; rw [cmpN, if_neg (by omega), if_pos h]
    have h1 : ¬ x < y := by omega
    go_enter Tryd.func18, Tryd.ntmps18
    go_wp2_with (go_at_call 32; refine (N.out _ _).mono ?_; rintro e w1 ⟨rfl, rfl⟩)
    go_ret
    exact ⟨by rw [HV.out]; rfl, rfl⟩
theorem nan64 (x : Nat) (w : World) : Calls Tryd.prog 41 #[.int .u64 x] w fun e w' => e = .returned (.bool false) ∧ w = w' := by
  go_enter Tryd.func41, Tryd.ntmps41
  go_wp2
  go_ret
  exact ⟨by simp, rfl⟩
theorem cmp64 (x y : Nat) (w : World) : Calls Tryd.prog 28 #[.int .u64 x, .int .u64 y] w fun e w' => e = .returned (.int .i64 (cmpN x y)) ∧ w = w' := by
  have N := Lib.hid nan64
  rcases Nat.lt_trichotomy x y with h | h | h
  · have HV : Hid (cmpN x y = -1) := by show _ = _; simp [cmpN, h]
    go_enter Tryd.func28, Tryd.ntmps28
    go_wp2_with (go_at_call 41; refine (N.out _ _).mono ?_; rintro e w1 ⟨rfl, rfl⟩)
    go_ret
    exact ⟨by rw [HV.out]; rfl, rfl⟩
  · have HV : Hid (cmpN x y = 0) := by show _ = _; simp [cmpN, h]
    have h1 : ¬ x < y := by omega
    have h2 : ¬ y < x := by omega
    clear h
    go_enter Tryd.func28, Tryd.ntmps28
    go_wp2_with (go_at_call 41; refine (N.out _ _).mono ?_; rintro e w1 ⟨rfl, rfl⟩)
    go_ret
    exact ⟨by rw [HV.out]; rfl, rfl⟩
  · have HV : Hid (cmpN x y = 1) := by show _ = _; rw [cmpN, if_neg (by omega), if_pos h]
    have h1 : ¬ x < y := by omega
    go_enter Tryd.func28, Tryd.ntmps28
    go_wp2_with (go_at_call 41; refine (N.out _ _).mono ?_; rintro e w1 ⟨rfl, rfl⟩)
    go_ret
    exact ⟨by rw [HV.out]; rfl, rfl⟩
/-- cmp.Or of two. -/
def orV (a b : Int) : Int := if a = 0 then b else a
theorem or_any (a b : Int) (v : Value) (w : World) (h : Rd w 1 v 2 [.int .i64 a, .int .i64 b]) :
    Calls Tryd.prog 17 #[v] w fun e w' => e = .returned (.int .i64 (orV a b)) ∧ w = w' := by
  obtain ⟨_, A, c, g, off, rfl, hn, hc, _, hA, hx⟩ := h
  obtain rfl := hA (by omega)
  have c0 : w.cell? ⟨g, off, none⟩ = some (.int .i64 a) := hx 0 (by omega)
  have c1 : w.cell? ⟨g, off + 1, none⟩ = some (.int .i64 b) := hx 1 (by omega)
  clear hA hx hc
  go_enter Tryd.func17, Tryd.ntmps17
  go_wp2
  go_loopw [8, 5] (fun i _ wr => ((i = .int .i64 0) ∨ (i = .int .i64 1 ∧ a = 0) ∨ (i = .int .i64 2 ∧ a = 0 ∧ b = 0)) ∧ w = wr) (fun i _ _ => 2 - (intOf i).toNat)
  case atStart => exact ⟨.inl rfl, rfl⟩
  case round =>
    obtain ⟨hi, rfl⟩ := hrel
    rcases hi with rfl | ⟨rfl, ha⟩ | ⟨rfl, ha, hb⟩
    · by_cases ha : a = 0
      · have d1 : (a != 0) = false := by simp [ha]
        have HA := Lib.hid ha
        clear ha
        go_wp2
        go_roundw
        case rel => exact ⟨.inr (.inl ⟨rfl, HA.out⟩), by first | rfl | trivial⟩
        case measure => simp [intOf]
      · have d1 : (a != 0) = true := by simp [ha]
        have HV : Hid (orV a b = a) := by show _ = _; rw [orV, if_neg ha]
        clear ha
        go_wp2
        go_ret
        exact ⟨by rw [HV.out]; rfl, rfl⟩
    · have HV : Hid (orV a b = b) := by show _ = _; rw [orV, if_pos ha]
      have HA := Lib.hid ha
      clear ha
      by_cases hb : b = 0
      · have d1 : (b != 0) = false := by simp [hb]
        have HB := Lib.hid hb
        clear hb
        go_wp2
        go_roundw
        case rel => exact ⟨.inr (.inr ⟨rfl, HA.out, HB.out⟩), by first | rfl | trivial⟩
        case measure => simp [intOf]
      · have d1 : (b != 0) = true := by simp [hb]
        clear hb
        go_wp2
        go_ret
        exact ⟨by rw [HV.out]; rfl, rfl⟩
    · have HV : Hid (orV a b = 0) := by show _ = _; rw [orV, if_pos ha, hb]
      clear ha hb
      go_wp2
      go_ret
      exact ⟨by rw [HV.out]; rfl, rfl⟩
theorem first_any (a b : Int) (v : Value) (w : World) (h : Rd w 1 v 2 [.int .i64 a, .int .i64 b]) :
    Calls Tryd.prog 27 #[v] w fun e w' => e = .returned (.int .i64 (orV a b)) ∧ w = w' := by
  obtain ⟨_, A, c, g, off, rfl, hn, hc, _, hA, hx⟩ := h
  obtain rfl := hA (by omega)
  have c0 : w.cell? ⟨g, off, none⟩ = some (.int .i64 a) := hx 0 (by omega)
  have c1 : w.cell? ⟨g, off + 1, none⟩ = some (.int .i64 b) := hx 1 (by omega)
  clear hA hx hc
  go_enter Tryd.func27, Tryd.ntmps27
  go_wp2
  go_loopw [7, 4] (fun i _ wr => ((i = .int .i64 0) ∨ (i = .int .i64 1 ∧ a = 0) ∨ (i = .int .i64 2 ∧ a = 0 ∧ b = 0)) ∧ w = wr) (fun i _ _ => 2 - (intOf i).toNat)
  case atStart => exact ⟨.inl rfl, rfl⟩
  case round =>
    obtain ⟨hi, rfl⟩ := hrel
    rcases hi with rfl | ⟨rfl, ha⟩ | ⟨rfl, ha, hb⟩
    · by_cases ha : a = 0
      · have d1 : (a != 0) = false := by simp [ha]
        have HA := Lib.hid ha
        clear ha
        go_wp2
        go_roundw
        case rel => exact ⟨.inr (.inl ⟨rfl, HA.out⟩), by first | rfl | trivial⟩
        case measure => simp [intOf]
      · have d1 : (a != 0) = true := by simp [ha]
        have HV : Hid (orV a b = a) := by show _ = _; rw [orV, if_neg ha]
        clear ha
        go_wp2
        go_ret
        exact ⟨by rw [HV.out]; rfl, rfl⟩
    · have HV : Hid (orV a b = b) := by show _ = _; rw [orV, if_pos ha]
      have HA := Lib.hid ha
      clear ha
      by_cases hb : b = 0
      · have d1 : (b != 0) = false := by simp [hb]
        have HB := Lib.hid hb
        clear hb
        go_wp2
        go_roundw
        case rel => exact ⟨.inr (.inr ⟨rfl, HA.out, HB.out⟩), by first | rfl | trivial⟩
        case measure => simp [intOf]
      · have d1 : (b != 0) = true := by simp [hb]
        clear hb
        go_wp2
        go_ret
        exact ⟨by rw [HV.out]; rfl, rfl⟩
    · have HV : Hid (orV a b = 0) := by show _ = _; rw [orV, if_pos ha, hb]
      clear ha hb
      go_wp2
      go_ret
      exact ⟨by rw [HV.out]; rfl, rfl⟩
theorem rd_two (w : World) (a b : Int) (g : Nat) (hg : g = w.heap.size) : Rd (w.alloc (.cells #[.int .i64 a, .int .i64 b] 3)) 1 (.slice (some ⟨g, 0, none⟩) 2 2) 2 [.int .i64 a, .int .i64 b] := by
  subst hg
  exact rd_lit w 1 2 2 #[.int .i64 a, .int .i64 b] _ rfl (Nat.le_refl _) (by unfold maxLen; omega)
theorem orV_neg (a b c d : Nat) : orV (cmpN a b) (cmpN c d) < 0 ↔ a < b ∨ a = b ∧ c < d := by
  unfold orV cmpN
  split <;> split <;> (try split) <;> (try split) <;> omega
end Go.Proofs.YthckjpcknmmagaaDoor.R
