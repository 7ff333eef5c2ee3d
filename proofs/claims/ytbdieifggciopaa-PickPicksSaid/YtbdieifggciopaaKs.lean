/-
  Pick: compares; which candidate is ahead.
-/
import Derived.Test.YtbdieifggciopaaKd
import Derived.Test.YtbdieifggciopaaVm
import Derived.Sort.Grow
import Derived.Laws.Externs
import Derived.Deep.QuietTactic
import Derived.Deep.RegionHeld3
namespace Go.Proofs.Ytbdieifggciopaa
open Go.RowKit
set_option maxRecDepth 100000
set_option maxHeartbeats 400000

/-- cmp.Compare. -/
def cmpN (x y : Nat) : Int := if x < y then -1 else if y < x then 1 else 0
theorem nan32 (x : Nat) (w : World) : Calls Try.prog 30 #[.int .u32 x] w fun e w' => e = .returned (.bool false) ∧ w = w' := by
  go_enter Try.func30, Try.ntmps30
  go_wp2
  go_ret
  exact ⟨by simp, rfl⟩
theorem cmp32 (x y : Nat) (w : World) : Calls Try.prog 26 #[.int .u32 x, .int .u32 y] w fun e w' => e = .returned (.int .i64 (cmpN x y)) ∧ w = w' := by
  have N := Lib.hid nan32
  rcases Nat.lt_trichotomy x y with h | h | h
  · have HV : Hid (cmpN x y = -1) := by show _ = _; simp [cmpN, h]
    go_enter Try.func26, Try.ntmps26
    go_wp2_with (go_at_call 30; refine (N.out _ _).mono ?_; rintro e w1 ⟨rfl, rfl⟩)
    go_ret
    exact ⟨by rw [HV.out]; rfl, rfl⟩
  · have HV : Hid (cmpN x y = 0) := by show _ = _; simp [cmpN, h]
    have h1 : ¬ x < y := by omega
    have h2 : ¬ y < x := by omega
    clear h
    go_enter Try.func26, Try.ntmps26
    go_wp2_with (go_at_call 30; refine (N.out _ _).mono ?_; rintro e w1 ⟨rfl, rfl⟩)
    go_ret
    exact ⟨by rw [HV.out]; rfl, rfl⟩
  · have HV : Hid (cmpN x y = 1) := by show _ = _; rw [cmpN, if_neg (by omega), if_pos h]
    have h1 : ¬ x < y := by omega
    go_enter Try.func26, Try.ntmps26
    go_wp2_with (go_at_call 30; refine (N.out _ _).mono ?_; rintro e w1 ⟨rfl, rfl⟩)
    go_ret
    exact ⟨by rw [HV.out]; rfl, rfl⟩
theorem nan64 (x : Nat) (w : World) : Calls Try.prog 29 #[.int .u64 x] w fun e w' => e = .returned (.bool false) ∧ w = w' := by
  go_enter Try.func29, Try.ntmps29
  go_wp2
  go_ret
  exact ⟨by simp, rfl⟩
theorem cmp64 (x y : Nat) (w : World) : Calls Try.prog 25 #[.int .u64 x, .int .u64 y] w fun e w' => e = .returned (.int .i64 (cmpN x y)) ∧ w = w' := by
  have N := Lib.hid nan64
  rcases Nat.lt_trichotomy x y with h | h | h
  · have HV : Hid (cmpN x y = -1) := by show _ = _; simp [cmpN, h]
    go_enter Try.func25, Try.ntmps25
    go_wp2_with (go_at_call 29; refine (N.out _ _).mono ?_; rintro e w1 ⟨rfl, rfl⟩)
    go_ret
    exact ⟨by rw [HV.out]; rfl, rfl⟩
  · have HV : Hid (cmpN x y = 0) := by show _ = _; simp [cmpN, h]
    have h1 : ¬ x < y := by omega
    have h2 : ¬ y < x := by omega
    clear h
    go_enter Try.func25, Try.ntmps25
    go_wp2_with (go_at_call 29; refine (N.out _ _).mono ?_; rintro e w1 ⟨rfl, rfl⟩)
    go_ret
    exact ⟨by rw [HV.out]; rfl, rfl⟩
  · have HV : Hid (cmpN x y = 1) := by show _ = _; rw [cmpN, if_neg (by omega), if_pos h]
    have h1 : ¬ x < y := by omega
    go_enter Try.func25, Try.ntmps25
    go_wp2_with (go_at_call 29; refine (N.out _ _).mono ?_; rintro e w1 ⟨rfl, rfl⟩)
    go_ret
    exact ⟨by rw [HV.out]; rfl, rfl⟩
/-- cmp.Or of two. -/
def orV (a b : Int) : Int := if a = 0 then b else a
theorem or_any (a b : Int) (v : Value) (w : World) (h : Rd w 1 v 2 [.int .i64 a, .int .i64 b]) :
    Calls Try.prog 24 #[v] w fun e w' => e = .returned (.int .i64 (orV a b)) ∧ w = w' := by
  obtain ⟨_, A, c, g, off, rfl, hn, hc, _, hA, hx⟩ := h
  obtain rfl := hA (by omega)
  have c0 : w.cell? ⟨g, off, none⟩ = some (.int .i64 a) := hx 0 (by omega)
  have c1 : w.cell? ⟨g, off + 1, none⟩ = some (.int .i64 b) := hx 1 (by omega)
  clear hA hx hc
  go_enter Try.func24, Try.ntmps24
  go_wp2
  go_loopw [8, 5] (fun i _ wr => ((i = .int .i64 0) ∨ (i = .int .i64 1 ∧ a = 0) ∨ (i = .int .i64 2 ∧ a = 0 ∧ b = 0)) ∧ w = wr) (fun i _ _ => 2 - (intOf i).toNat)
  case atStart => exact ⟨.inl rfl, rfl⟩
  case round =>
    obtain ⟨hi, rfl⟩ := hrel
    rcases hi with rfl | ⟨rfl, ha⟩ | ⟨rfl, ha, hb⟩
    · by_cases ha : a = 0
      · have d1 : (a != 0) = false := by simp [ha]
        have HA := Lib.hid ha
        clear ha
        go_wp2
        go_roundw
        case rel => exact ⟨.inr (.inl ⟨rfl, HA.out⟩), by first | rfl | trivial⟩
        case measure => simp [intOf]
      · have d1 : (a != 0) = true := by simp [ha]
        have HV : Hid (orV a b = a) := by show _ = _; rw [orV, if_neg ha]
        clear ha
        go_wp2
        go_ret
        exact ⟨by rw [HV.out]; rfl, rfl⟩
    · have HV : Hid (orV a b = b) := by show _ = _; rw [orV, if_pos ha]
      have HA := Lib.hid ha
      clear ha
      by_cases hb : b = 0
      · have d1 : (b != 0) = false := by simp [hb]
        have HB := Lib.hid hb
        clear hb
        go_wp2
        go_roundw
        case rel => exact ⟨.inr (.inr ⟨rfl, HA.out, HB.out⟩), by first | rfl | trivial⟩
        case measure => simp [intOf]
      · have d1 : (b != 0) = true := by simp [hb]
        clear hb
        go_wp2
        go_ret
        exact ⟨by rw [HV.out]; rfl, rfl⟩
    · have HV : Hid (orV a b = 0) := by show _ = _; rw [orV, if_pos ha, hb]
      clear ha hb
      go_wp2
      go_ret
      exact ⟨by rw [HV.out]; rfl, rfl⟩
theorem rd_two (w : World) (a b : Int) (g : Nat) (hg : g = w.heap.size) : Rd (w.alloc (.cells #[.int .i64 a, .int .i64 b] 3)) 1 (.slice (some ⟨g, 0, none⟩) 2 2) 2 [.int .i64 a, .int .i64 b] := by
  subst hg
  exact rd_lit w 1 2 2 #[.int .i64 a, .int .i64 b] _ rfl (Nat.le_refl _) (by unfold maxLen; omega)
theorem orV_neg (a b c d : Nat) : orV (cmpN a b) (cmpN c d) < 0 ↔ a < b ∨ a = b ∧ c < d := by
  unfold orV cmpN
  split <;> split <;> (try split) <;> (try split) <;> omega
/-- worlds that grew by blocks and draws alone. -/
structure Gos (w w' : World) : Prop where
  ex : ∃ q os, w' = Go.Sort.grow (w.drewN q) os
theorem Gos.refl (w : World) : Gos w w := ⟨0, #[], by simp [Go.Sort.grow, World.drewN]⟩
theorem Gos.alloc {w w' : World} (h : Gos w w') (o : Obj) : Gos w (w'.alloc o) := by
  obtain ⟨⟨q, os, rfl⟩⟩ := h
  exact ⟨q, os ++ #[o], by rw [Go.Sort.alloc_eq_grow, Go.Sort.grow_grow]⟩
theorem Gos.drew {w w' : World} (h : Gos w w') : Gos w w'.drew := by
  obtain ⟨⟨q, os, rfl⟩⟩ := h
  exact ⟨q + 1, os, rfl⟩
theorem Gos.drewN {w w' : World} (h : Gos w w') (n : Nat) : Gos w (w'.drewN n) := by
  obtain ⟨⟨q, os, rfl⟩⟩ := h
  exact ⟨q + n, os, by simp [Go.Sort.grow, World.drewN, Nat.add_assoc]⟩
theorem Gos.gr {w w' : World} (h : Gos w w') : w.grownBy w' none := by
  obtain ⟨⟨q, os, rfl⟩⟩ := h
  refine ⟨rfl, rfl, rfl, ?_, fun i hi _ => ?_⟩
  · show w.heap.size ≤ (w.heap ++ os).size
    simp
  · show (w.heap ++ os)[i]? = w.heap[i]?
    rw [Array.getElem?_append_left hi]
def Cd.agg (x : Cd) : Value := .agg #[.int .u32 x.d.v.toNat, .int .u64 x.d.k.toNat, x.s]
theorem orV_ahead (x y : Dt) : decide (orV (cmpN x.k.toNat y.k.toNat) (cmpN x.v.toNat y.v.toNat) < 0) = decide (aheadD x y) :=
  decide_eq_decide.2 (by rw [orV_neg]; rfl)
set_option maxHeartbeats 2000000 in
theorem ahead_any (x y : Cd) (w : World) : Calls Try.prog 19 #[x.agg, y.agg] w fun e w' => e = .returned (.bool (decide (aheadD x.d y.d))) ∧ w.grownBy w' none := by
  obtain ⟨⟨xa, xb, xl⟩, xs⟩ := x
  obtain ⟨⟨ya, yb, yl⟩, ys⟩ := y
  have HV : Hid (decide (orV (cmpN xb.toNat yb.toNat) (cmpN xa.toNat ya.toNat) < 0) = decide (aheadD ⟨xa, xb, xl⟩ ⟨ya, yb, yl⟩)) := orV_ahead ⟨xa, xb, xl⟩ ⟨ya, yb, yl⟩
  have HC4 := Lib.hid cmp64
  have HC2 := Lib.hid cmp32
  have HOR := Lib.hid (or_any (cmpN xb.toNat yb.toNat) (cmpN xa.toNat ya.toNat))
  have KZ : Hid (∀ wz, ((w.alloc (.cells #[.int .u32 xa.toNat, .int .u64 xb.toNat, xs] 33)).alloc (.cells #[.int .u32 ya.toNat, .int .u64 yb.toNat, ys] 33)).grownBy wz none → wz.cell? ⟨w.heap.size, 0, none⟩ = some (.int .u32 xa.toNat) ∧ wz.cell? ⟨w.heap.size, 1, none⟩ = some (.int .u64 xb.toNat) ∧ wz.cell? ⟨w.heap.size + 1, 0, none⟩ = some (.int .u32 ya.toNat) ∧ wz.cell? ⟨w.heap.size + 1, 1, none⟩ = some (.int .u64 yb.toNat)) := fun wz hz => by
    exact ⟨hz.cell (a := ⟨w.heap.size, 0, none⟩) (by simp) (by simp), hz.cell (a := ⟨w.heap.size, 1, none⟩) (by simp) (by simp), hz.cell (a := ⟨w.heap.size + 1, 0, none⟩) (by simp) (by simp), hz.cell (a := ⟨w.heap.size + 1, 1, none⟩) (by simp) (by simp)⟩
  have HOZ : Hid (∀ (wx : World) (g : Nat), g = wx.heap.size → ((w.alloc (.cells #[.int .u32 xa.toNat, .int .u64 xb.toNat, xs] 33)).alloc (.cells #[.int .u32 ya.toNat, .int .u64 yb.toNat, ys] 33)).grownBy wx none → Calls Try.prog 24 #[.slice (some ⟨g, 0, none⟩) 2 2] (wx.alloc (.cells #[.int .i64 (cmpN xb.toNat yb.toNat), .int .i64 (cmpN xa.toNat ya.toNat)] 3)).drew fun e wz => e = .returned (.int .i64 (orV (cmpN xb.toNat yb.toNat) (cmpN xa.toNat ya.toNat))) ∧ ((w.alloc (.cells #[.int .u32 xa.toNat, .int .u64 xb.toNat, xs] 33)).alloc (.cells #[.int .u32 ya.toNat, .int .u64 yb.toNat, ys] 33)).grownBy wz none ∧ wz.cell? ⟨w.heap.size, 0, none⟩ = some (.int .u32 xa.toNat) ∧ wz.cell? ⟨w.heap.size, 1, none⟩ = some (.int .u64 xb.toNat) ∧ wz.cell? ⟨w.heap.size + 1, 0, none⟩ = some (.int .u32 ya.toNat) ∧ wz.cell? ⟨w.heap.size + 1, 1, none⟩ = some (.int .u64 yb.toNat)) := fun wx g hg hb => by
    refine (HOR.out _ _ (Rd.ext (rd_two wx (cmpN xb.toNat yb.toNat) (cmpN xa.toNat ya.toNat) g hg) (gr_drew _ none))).mono ?_
    rintro e wz ⟨rfl, rfl⟩
    have hz := gr_none hb (gr_none (gr_alloc wx (.cells #[.int .i64 (cmpN xb.toNat yb.toNat), .int .i64 (cmpN xa.toNat ya.toNat)] 3) none) (gr_drew _ none))
    exact ⟨rfl, hz, KZ.out _ hz⟩
  generalize orV (cmpN xb.toNat yb.toNat) (cmpN xa.toNat ya.toNat) = K at *
  show Calls _ _ #[.agg #[.int .u32 xa.toNat, .int .u64 xb.toNat, xs], .agg #[.int .u32 ya.toNat, .int .u64 yb.toNat, ys]] _ fun e w' => e = .returned (.bool (decide (aheadD ⟨xa, xb, xl⟩ ⟨ya, yb, yl⟩))) ∧ w.grownBy w' none
  rw [← HV.out]
  clear HV HOR KZ
  generalize xa.toNat = p1 at *
  generalize xb.toNat = p2 at *
  generalize ya.toNat = q1 at *
  generalize yb.toNat = q2 at *
  go_enter Try.func19, Try.ntmps19
  go_wp2_with fail
  go_region_held3 (fun w' => w'.cell? ⟨w.heap.size, 0, none⟩ = some (.int .u32 p1) ∧ w'.cell? ⟨w.heap.size, 1, none⟩ = some (.int .u64 p2) ∧ w'.cell? ⟨w.heap.size + 1, 0, none⟩ = some (.int .u32 q1) ∧ w'.cell? ⟨w.heap.size + 1, 1, none⟩ = some (.int .u64 q2)) (go_keep) (first
    | (go_at_call 25; refine (HC4.out _ _ _).mono ?_; rintro e w1 ⟨rfl, rfl⟩)
    | (go_at_call 26; refine (HC2.out _ _ _).mono ?_; rintro e w1 ⟨rfl, rfl⟩)
    | (go_at_call 24; refine (HOZ.out _ _ ?_ ?_).mono ?_; simp; (with_reducible first | exact gr_refl _ _ | exact gr_drew _ _ | exact gr_drewN _ _ _); rintro e wz ⟨rfl, gz, kz⟩))
  all_goals
    go_wp2
    go_ret
    exact ⟨rfl, gr_none (gr_none (gr_alloc _ _ none) (gr_alloc _ _ none)) gz⟩
end Go.Proofs.Ytbdieifggciopaa
