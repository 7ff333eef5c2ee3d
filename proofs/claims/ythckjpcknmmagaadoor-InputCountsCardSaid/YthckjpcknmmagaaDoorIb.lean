/-
  Which edge is better; which is ahead.
-/
import Derived.Test.YthckjpcknmmagaaDoorIs
import Derived.Sort.Grow
namespace Go.Proofs.YthckjpcknmmagaaDoor.R
open Go.RowKit
set_option maxRecDepth 100000
set_option maxHeartbeats 400000

theorem mn_wrap (d : UInt32) : IntKind.u32.wrap ((d.toNat : Int) + 1) = ((((d.toNat + 1) % 4294967296 : Nat)) : Int) := by
  rw [IntKind.wrap_u32]; omega
set_option maxHeartbeats 2000000 in
theorem better_any (x y : Ed) (w : World) : Calls Tryd.prog 13 #[x.v, y.v] w fun e w' => e = .returned (.bool (decide (wn x < wn y))) ∧ w.grownBy w' none := by
  obtain ⟨xa, xb, xc, xd⟩ := x
  obtain ⟨ya, yb, yc, yd⟩ := y
  have HV : Hid (decide (wn ⟨xa, xb, xc, xd⟩ < wn ⟨ya, yb, yc, yd⟩) = decide (orV (cmpN xc.toNat yc.toNat) (cmpN ((xd.toNat + 1) % 4294967296) ((yd.toNat + 1) % 4294967296)) < 0)) := by
    show _ = _
    rw [decide_eq_decide, orV_neg, wn_lt]
    rfl
  have hm1 := mn_wrap xd
  have hm2 := mn_wrap yd
  have HC4 := Lib.hid (cmp64 xc.toNat yc.toNat)
  generalize hm : (xd.toNat + 1) % 4294967296 = m1 at *
  generalize hm' : (yd.toNat + 1) % 4294967296 = m2 at *
  have HC2 := Lib.hid (cmp32 m1 m2)
  have HOR := Lib.hid (first_any (cmpN xc.toNat yc.toNat) (cmpN m1 m2))
  generalize cmpN xc.toNat yc.toNat = c1 at *
  generalize cmpN m1 m2 = c2 at *
  have KZ : Hid (∀ wz, ((w.alloc (.cells #[.int .u32 xa.toNat, .int .u32 xb.toNat, .int .u64 xc.toNat, .int .u32 xd.toNat] 29)).alloc (.cells #[.int .u32 ya.toNat, .int .u32 yb.toNat, .int .u64 yc.toNat, .int .u32 yd.toNat] 29)).grownBy wz none → wz.cell? ⟨w.heap.size, 2, none⟩ = some (.int .u64 xc.toNat) ∧ wz.cell? ⟨w.heap.size, 3, none⟩ = some (.int .u32 xd.toNat) ∧ wz.cell? ⟨w.heap.size + 1, 2, none⟩ = some (.int .u64 yc.toNat) ∧ wz.cell? ⟨w.heap.size + 1, 3, none⟩ = some (.int .u32 yd.toNat)) := fun wz hz =>
    ⟨hz.cell (a := ⟨w.heap.size, 2, none⟩) (by simp) (by simp), hz.cell (a := ⟨w.heap.size, 3, none⟩) (by simp) (by simp), hz.cell (a := ⟨w.heap.size + 1, 2, none⟩) (by simp) (by simp), hz.cell (a := ⟨w.heap.size + 1, 3, none⟩) (by simp) (by simp)⟩
  have HOZ : Hid (∀ (wx : World) (g : Nat), g = wx.heap.size → ((w.alloc (.cells #[.int .u32 xa.toNat, .int .u32 xb.toNat, .int .u64 xc.toNat, .int .u32 xd.toNat] 29)).alloc (.cells #[.int .u32 ya.toNat, .int .u32 yb.toNat, .int .u64 yc.toNat, .int .u32 yd.toNat] 29)).grownBy wx none → Calls Tryd.prog 27 #[.slice (some ⟨g, 0, none⟩) 2 2] (wx.alloc (.cells #[.int .i64 c1, .int .i64 c2] 3)).drew fun e wz => e = .returned (.int .i64 (orV c1 c2)) ∧ ((w.alloc (.cells #[.int .u32 xa.toNat, .int .u32 xb.toNat, .int .u64 xc.toNat, .int .u32 xd.toNat] 29)).alloc (.cells #[.int .u32 ya.toNat, .int .u32 yb.toNat, .int .u64 yc.toNat, .int .u32 yd.toNat] 29)).grownBy wz none ∧ wz.cell? ⟨w.heap.size, 2, none⟩ = some (.int .u64 xc.toNat) ∧ wz.cell? ⟨w.heap.size, 3, none⟩ = some (.int .u32 xd.toNat) ∧ wz.cell? ⟨w.heap.size + 1, 2, none⟩ = some (.int .u64 yc.toNat) ∧ wz.cell? ⟨w.heap.size + 1, 3, none⟩ = some (.int .u32 yd.toNat)) := fun wx g hg hb => by
    refine (HOR.out _ _ (Rd.ext (rd_two wx c1 c2 g hg) (gr_drew _ none))).mono ?_
    rintro e wz ⟨rfl, rfl⟩
    have hz := gr_none (gr_none hb (gr_alloc wx (.cells #[.int .i64 c1, .int .i64 c2] 3) none)) (gr_drew _ none)
    exact ⟨rfl, hz, KZ.out _ hz⟩
  generalize orV c1 c2 = K at *
  clear hm hm'
  unfold Ed.v
  go_enter Tryd.func13, Tryd.ntmps13
  go_wp2_with fail
  go_region_held3 (fun w' => w'.cell? ⟨w.heap.size, 2, none⟩ = some (.int .u64 xc.toNat) ∧ w'.cell? ⟨w.heap.size, 3, none⟩ = some (.int .u32 xd.toNat) ∧ w'.cell? ⟨w.heap.size + 1, 2, none⟩ = some (.int .u64 yc.toNat) ∧ w'.cell? ⟨w.heap.size + 1, 3, none⟩ = some (.int .u32 yd.toNat)) (go_keep) (first
    | (go_at_call 28; refine (HC4.out _).mono ?_; rintro e w1 ⟨rfl, rfl⟩)
    | (go_at_call 18; refine (HC2.out _).mono ?_; rintro e w1 ⟨rfl, rfl⟩)
    | (go_at_call 27; refine (HOZ.out _ _ ?_ ?_).mono ?_; simp; (first | exact gr_refl _ _ | exact gr_drew _ _ | exact gr_drewN _ _ _); rintro e wz ⟨rfl, gz, kz⟩))
  all_goals
    go_wp2
    go_ret
    exact ⟨by rw [HV.out]; rfl, gr_none (gr_none (gr_alloc _ _ none) (gr_alloc _ _ none)) gz⟩
/-- worlds that grew by blocks and draws alone. -/
structure Gos (w w' : World) : Prop where
  ex : ∃ q os, w' = Go.Sort.grow (w.drewN q) os
theorem Gos.refl (w : World) : Gos w w := ⟨0, #[], by simp [Go.Sort.grow, World.drewN]⟩
theorem Gos.alloc {w w' : World} (h : Gos w w') (o : Obj) : Gos w (w'.alloc o) := by
  obtain ⟨⟨q, os, rfl⟩⟩ := h
  exact ⟨q, os ++ #[o], by rw [Go.Sort.alloc_eq_grow, Go.Sort.grow_grow]⟩
theorem Gos.drew {w w' : World} (h : Gos w w') : Gos w w'.drew := by
  obtain ⟨⟨q, os, rfl⟩⟩ := h
  exact ⟨q + 1, os, rfl⟩
theorem Gos.drewN {w w' : World} (h : Gos w w') (n : Nat) : Gos w (w'.drewN n) := by
  obtain ⟨⟨q, os, rfl⟩⟩ := h
  exact ⟨q + n, os, by simp [Go.Sort.grow, World.drewN, Nat.add_assoc]⟩
theorem Gos.gr {w w' : World} (h : Gos w w') : w.grownBy w' none := by
  obtain ⟨⟨q, os, rfl⟩⟩ := h
  refine ⟨rfl, rfl, rfl, ?_, fun i hi _ => ?_⟩
  · show w.heap.size ≤ (w.heap ++ os).size
    simp
  · show (w.heap ++ os)[i]? = w.heap[i]?
    rw [Array.getElem?_append_left hi]
def edC (x y : Ed) : Int := orV (cmpN x.t.toNat y.t.toNat) (cmpN x.h.toNat y.h.toNat)
theorem edC_lt (x y : Ed) : edC x y < 0 ↔ kn x < kn y := by unfold edC; rw [orV_neg, kn_lt]
set_option maxHeartbeats 2000000 in
theorem byEnds_any (x y : Ed) (w : World) : Calls Tryd.prog 16 #[.agg x.enc.toArray, .agg y.enc.toArray] w fun e w' => e = .returned (.int .i64 (edC x y)) ∧ Gos w w' := by
  obtain ⟨xa, xb, xc, xd⟩ := x
  obtain ⟨ya, yb, yc, yd⟩ := y
  have HV : Hid (edC ⟨xa, xb, xc, xd⟩ ⟨ya, yb, yc, yd⟩ = orV (cmpN xa.toNat ya.toNat) (cmpN xb.toNat yb.toNat)) := rfl
  have HC := Lib.hid cmp32
  have HOR := Lib.hid (or_any (cmpN xa.toNat ya.toNat) (cmpN xb.toNat yb.toNat))
  have KZ : Hid (∀ wz, Gos ((w.alloc (.cells #[.int .u32 xa.toNat, .int .u32 xb.toNat, .int .u64 xc.toNat, .int .u32 xd.toNat] 29)).alloc (.cells #[.int .u32 ya.toNat, .int .u32 yb.toNat, .int .u64 yc.toNat, .int .u32 yd.toNat] 29)) wz → wz.cell? ⟨w.heap.size, 0, none⟩ = some (.int .u32 xa.toNat) ∧ wz.cell? ⟨w.heap.size, 1, none⟩ = some (.int .u32 xb.toNat) ∧ wz.cell? ⟨w.heap.size + 1, 0, none⟩ = some (.int .u32 ya.toNat) ∧ wz.cell? ⟨w.heap.size + 1, 1, none⟩ = some (.int .u32 yb.toNat)) := fun wz hz0 => by
    have hz := hz0.gr
    exact ⟨hz.cell (a := ⟨w.heap.size, 0, none⟩) (by simp) (by simp), hz.cell (a := ⟨w.heap.size, 1, none⟩) (by simp) (by simp), hz.cell (a := ⟨w.heap.size + 1, 0, none⟩) (by simp) (by simp), hz.cell (a := ⟨w.heap.size + 1, 1, none⟩) (by simp) (by simp)⟩
  have HOZ : Hid (∀ (wx : World) (g : Nat), g = wx.heap.size → Gos ((w.alloc (.cells #[.int .u32 xa.toNat, .int .u32 xb.toNat, .int .u64 xc.toNat, .int .u32 xd.toNat] 29)).alloc (.cells #[.int .u32 ya.toNat, .int .u32 yb.toNat, .int .u64 yc.toNat, .int .u32 yd.toNat] 29)) wx → Calls Tryd.prog 17 #[.slice (some ⟨g, 0, none⟩) 2 2] (wx.alloc (.cells #[.int .i64 (cmpN xa.toNat ya.toNat), .int .i64 (cmpN xb.toNat yb.toNat)] 3)).drew fun e wz => e = .returned (.int .i64 (orV (cmpN xa.toNat ya.toNat) (cmpN xb.toNat yb.toNat))) ∧ Gos ((w.alloc (.cells #[.int .u32 xa.toNat, .int .u32 xb.toNat, .int .u64 xc.toNat, .int .u32 xd.toNat] 29)).alloc (.cells #[.int .u32 ya.toNat, .int .u32 yb.toNat, .int .u64 yc.toNat, .int .u32 yd.toNat] 29)) wz ∧ wz.cell? ⟨w.heap.size, 0, none⟩ = some (.int .u32 xa.toNat) ∧ wz.cell? ⟨w.heap.size, 1, none⟩ = some (.int .u32 xb.toNat) ∧ wz.cell? ⟨w.heap.size + 1, 0, none⟩ = some (.int .u32 ya.toNat) ∧ wz.cell? ⟨w.heap.size + 1, 1, none⟩ = some (.int .u32 yb.toNat)) := fun wx g hg hb => by
    refine (HOR.out _ _ (Rd.ext (rd_two wx (cmpN xa.toNat ya.toNat) (cmpN xb.toNat yb.toNat) g hg) (gr_drew _ none))).mono ?_
    rintro e wz ⟨rfl, rfl⟩
    have hz := (hb.alloc (.cells #[.int .i64 (cmpN xa.toNat ya.toNat), .int .i64 (cmpN xb.toNat yb.toNat)] 3)).drew
    exact ⟨rfl, hz, KZ.out _ hz⟩
  generalize orV (cmpN xa.toNat ya.toNat) (cmpN xb.toNat yb.toNat) = K at *
  rw [HV.out]
  unfold Ed.enc
  simp only []
  clear HV HOR
  generalize xa.toNat = p1 at *
  generalize xb.toNat = p2 at *
  generalize ya.toNat = q1 at *
  generalize yb.toNat = q2 at *
  go_enter Tryd.func16, Tryd.ntmps16
  go_wp2_with fail
  go_region_held3 (fun w' => w'.cell? ⟨w.heap.size, 0, none⟩ = some (.int .u32 p1) ∧ w'.cell? ⟨w.heap.size, 1, none⟩ = some (.int .u32 p2) ∧ w'.cell? ⟨w.heap.size + 1, 0, none⟩ = some (.int .u32 q1) ∧ w'.cell? ⟨w.heap.size + 1, 1, none⟩ = some (.int .u32 q2)) (go_keep) (first
    | (go_at_call 18; refine (HC.out _ _ _).mono ?_; rintro e w1 ⟨rfl, rfl⟩)
    | (go_at_call 17; refine (HOZ.out _ _ ?_ ?_).mono ?_; simp; (with_reducible first | exact Gos.refl _ | exact Gos.drew (Gos.refl _) | exact Gos.drewN (Gos.refl _) _); rintro e wz ⟨rfl, gz, kz⟩))
  all_goals
    go_wp2
    go_ret
    exact ⟨rfl, by
      obtain ⟨⟨q, os, rfl⟩⟩ := gz
      exact ⟨q, _, by rw [Go.Sort.alloc_eq_grow, Go.Sort.alloc_eq_grow, Go.Sort.grow_grow]; exact Go.Sort.grow_grow (w.drewN q) _ os⟩⟩
/-- the document's ahead and Better. -/
theorem ahead_any (x y : Ed) (w : World) : Calls Tryd.prog 19 #[x.v, y.v] w fun e w' => e = .returned (.bool (decide (kn x < kn y))) ∧ w.grownBy w' none := by
  obtain ⟨xa, xb, xc, xd⟩ := x
  obtain ⟨ya, yb, yc, yd⟩ := y
  have HV : Hid (decide (kn ⟨xa, xb, xc, xd⟩ < kn ⟨ya, yb, yc, yd⟩) = decide (xa.toNat < ya.toNat ∨ xa.toNat = ya.toNat ∧ xb.toNat < yb.toNat)) := by
    show _ = _
    rw [decide_eq_decide, kn_lt]
  rw [HV.out]
  unfold Ed.v
  clear HV
  rcases Nat.lt_trichotomy xa.toNat ya.toNat with h | h | h
  · have HD : Hid (decide (xa.toNat < ya.toNat ∨ xa.toNat = ya.toNat ∧ xb.toNat < yb.toNat) = true) := by show _ = _; simp [h]
    rw [HD.out]
    go_enter Tryd.func19, Tryd.ntmps19
    go_wp2
    go_ret
    exact ⟨by simp, gr_none (gr_alloc _ _ none) (gr_alloc _ _ none)⟩
  · have hb : ((xa.toNat : Int) == (ya.toNat : Int)) = true := by simp; omega
    have hl : ¬ xa.toNat < ya.toNat := by omega
    have HD : Hid (decide (xa.toNat < ya.toNat ∨ xa.toNat = ya.toNat ∧ xb.toNat < yb.toNat) = decide (xb.toNat < yb.toNat)) := by show _ = _; simp [h]
    rw [HD.out]
    clear h HD
    go_enter Tryd.func19, Tryd.ntmps19
    go_wp2
    go_ret
    exact ⟨by simp, gr_none (gr_alloc _ _ none) (gr_alloc _ _ none)⟩
  · have hb : ((xa.toNat : Int) == (ya.toNat : Int)) = false := by simp; omega
    have hl : ¬ xa.toNat < ya.toNat := by omega
    have HD : Hid (decide (xa.toNat < ya.toNat ∨ xa.toNat = ya.toNat ∧ xb.toNat < yb.toNat) = false) := by show _ = _; simp; omega
    rw [HD.out]
    clear h HD
    go_enter Tryd.func19, Tryd.ntmps19
    go_wp2
    go_ret
    exact ⟨by simp, gr_none (gr_alloc _ _ none) (gr_alloc _ _ none)⟩
theorem betterR_any (x y : Ed) (w : World) : Calls Tryd.prog 20 #[x.v, y.v] w fun e w' => e = .returned (.bool (decide (wn x < wn y))) ∧ w.grownBy w' none := by
  obtain ⟨xa, xb, xc, xd⟩ := x
  obtain ⟨ya, yb, yc, yd⟩ := y
  have HV : Hid (decide (wn ⟨xa, xb, xc, xd⟩ < wn ⟨ya, yb, yc, yd⟩) = decide (xc.toNat < yc.toNat ∨ xc.toNat = yc.toNat ∧ (xd.toNat + 1) % 4294967296 < (yd.toNat + 1) % 4294967296)) := by
    show _ = _
    rw [decide_eq_decide, wn_lt]; rfl
  rw [HV.out]
  unfold Ed.v
  have hm1 := mn_wrap xd
  have hm2 := mn_wrap yd
  generalize (xd.toNat + 1) % 4294967296 = m1 at *
  generalize (yd.toNat + 1) % 4294967296 = m2 at *
  clear HV
  rcases Nat.lt_trichotomy xc.toNat yc.toNat with h | h | h
  · have HD : Hid (decide (xc.toNat < yc.toNat ∨ xc.toNat = yc.toNat ∧ m1 < m2) = true) := by show _ = _; simp [h]
    rw [HD.out]
    go_enter Tryd.func20, Tryd.ntmps20
    go_wp2
    go_ret
    exact ⟨by simp, gr_none (gr_alloc _ _ none) (gr_alloc _ _ none)⟩
  · have hb : ((xc.toNat : Int) == (yc.toNat : Int)) = true := by simp; omega
    have hl : ¬ xc.toNat < yc.toNat := by omega
    have HD : Hid (decide (xc.toNat < yc.toNat ∨ xc.toNat = yc.toNat ∧ m1 < m2) = decide (m1 < m2)) := by show _ = _; simp [h]
    rw [HD.out]
    clear h HD
    go_enter Tryd.func20, Tryd.ntmps20
    go_wp2
    go_ret
    exact ⟨by simp, gr_none (gr_alloc _ _ none) (gr_alloc _ _ none)⟩
  · have hb : ((xc.toNat : Int) == (yc.toNat : Int)) = false := by simp; omega
    have hl : ¬ xc.toNat < yc.toNat := by omega
    have HD : Hid (decide (xc.toNat < yc.toNat ∨ xc.toNat = yc.toNat ∧ m1 < m2) = false) := by show _ = _; simp; omega
    rw [HD.out]
    clear h HD
    go_enter Tryd.func20, Tryd.ntmps20
    go_wp2
    go_ret
    exact ⟨by simp, gr_none (gr_alloc _ _ none) (gr_alloc _ _ none)⟩
end Go.Proofs.YthckjpcknmmagaaDoor.R
