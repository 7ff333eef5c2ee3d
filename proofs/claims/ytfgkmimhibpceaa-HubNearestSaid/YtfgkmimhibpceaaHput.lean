/-
  Hub: Add's put: a candidate among the best ones of their hubs.
-/
import Derived.Test.YtfgkmimhibpceaaHo
import Derived.Deep.RegionHeld3
namespace Go.Proofs.Ytfgkmimhibpceaa
open Go.RowKit
set_option maxRecDepth 100000
set_option maxHeartbeats 400000

noncomputable abbrev jU : KeyK Try.prog 22 UInt32 := u32K Try.prog 22 Try.underlying22
def dom (best : UInt32 → Option Lb) : UInt32 → Option Value := fun h => (best h).map Lb.v
def ahd (x old : Lb) : Int := orV (cmpN x.dist.toNat old.dist.toNat) (cmpN x.next.toNat old.next.toNat)
def putB (best : UInt32 → Option Lb) (x : Lb) : UInt32 → Option Lb := fun h => if h = x.hub then (match best x.hub with | none => some x | some old => some (if ahd x old < 0 then x else old)) else best h
structure PutS (w : World) (bp m n : Nat) (best : UInt32 → Option Lb) : Prop where
  box : Blk w bp 55 #[.map (some m)]
  vm : VM jU w m n (dom best)
theorem PutS.ext {w w' : World} {bp m n : Nat} {best : UInt32 → Option Lb} (h : PutS w bp m n best) (hg : w.grownBy w' none) : PutS w' bp m n best := ⟨h.box.ext hg, h.vm.ext hg⟩
theorem putB_keep {best : UInt32 → Option Lb} {x old : Lb} (hb : best x.hub = some old) (hn : ¬ ahd x old < 0) : putB best x = best := by
  funext h
  unfold putB
  by_cases e : h = x.hub
  · subst e; rw [if_pos rfl, hb]; simp [hn]
  · rw [if_neg e]
theorem putB_set {best : UInt32 → Option Lb} {x : Lb} (hb : best x.hub = none ∨ ∃ old, best x.hub = some old ∧ ahd x old < 0) : dom (putB best x) = fun h => if h = x.hub then some x.v else dom best h := by
  funext h
  unfold dom putB
  by_cases e : h = x.hub
  · subst e
    rw [if_pos rfl, if_pos rfl]
    rcases hb with hb | ⟨old, hb, ha⟩
    · rw [hb]; rfl
    · rw [hb]; simp [ha]
  · rw [if_neg e, if_neg e]
theorem Try.zeroL (w : World) : (zeroValue 39).run Try.prog w = .ok (.agg #[.int .u32 0, .int .u32 0, .int .u64 0]) w := Try.zeroValue39 w
theorem gr_eq {a b c : World} (h : b = c) (g : a.grownBy b none) : a.grownBy c none := h ▸ g
theorem rd_two (w : World) (a b : Int) (g : Nat) (hg : g = w.heap.size) : Rd (w.alloc (.cells #[.int .i64 a, .int .i64 b] 3)) 1 (.slice (some ⟨g, 0, none⟩) 2 2) 2 [.int .i64 a, .int .i64 b] := by
  subst hg
  exact rd_lit w 1 2 2 #[.int .i64 a, .int .i64 b] _ rfl (Nat.le_refl _) (by unfold maxLen; omega)
set_option maxHeartbeats 2000000 in
theorem put_any {w : World} {bp m n : Nat} {best : UInt32 → Option Lb} (h : PutS w bp m n best) (hn : n ≤ 1000000000) (x : Lb) :
    Calls Try.prog 27 #[x.v, .pointer (some ⟨bp, 0, none⟩)] w fun e w' => e = .returned (.tuple #[]) ∧ PutS w' bp m (n + 1) (putB best x) ∧ w.grownBy w' (some m) := by
  have hbm : bp ≠ m := by
    intro e
    obtain ⟨D, ⟨es, cl, h1, _⟩, _⟩ := h.vm
    have h2 := h.box
    unfold Blk at h2
    rw [e, h1] at h2
    cases h2
  have HB := Lib.hid h.box
  have HM := Lib.hid h.vm
  have hcb : w.cell? ⟨bp, 0, none⟩ = some (.map (some m)) := h.box.cell 0
  have HL := Lib.hid fun (wx : World) (hg : w.grownBy wx none) => (HM.out.ext hg).look2 Try.underlying55 (Try.zeroL wx) x.hub
  obtain ⟨xh, xn, xd⟩ := x
  have hcb1 : (w.alloc (.cells #[.int .u32 xh.toNat, .int .u32 xn.toNat, .int .u64 xd.toNat] 39)).cell? ⟨bp, 0, none⟩ = some (.map (some m)) := (gr_alloc w _ none).cell hcb (by simp)
  cases hb : best xh with
  | none =>
    have HP := Lib.hid (putB_set (x := ⟨xh, xn, xd⟩) (.inl hb))
    have hcb2 : ((w.alloc (.cells #[.int .u32 xh.toNat, .int .u32 xn.toNat, .int .u64 xd.toNat] 39)).alloc (.cells #[.int .u32 0, .int .u32 0, .int .u64 0] 39)).cell? ⟨bp, 0, none⟩ = some (.map (some m)) := (gr_alloc _ _ none).cell hcb1 (by simp)
    have hlk := HL.out (w.alloc (.cells #[.int .u32 xh.toNat, .int .u32 xn.toNat, .int .u64 xd.toNat] 39)) (gr_alloc _ _ _)
    have hd : dom best xh = none := by unfold dom; rw [hb]; rfl
    simp only [hd] at hlk
    change (Instr.lookup 55 (.map (some m)) (.int .u32 xh.toNat) true).run Try.prog _ = .ok (.tuple #[.agg #[.int .u32 0, .int .u32 0, .int .u64 0], .bool false]) _ at hlk
    clear h hb hd HL
    unfold Lb.v
    go_enter Try.func27, Try.ntmps27
    go_wp2_with fail
    go_quiet (fail)
    go_wp2_with (at_mapUpdate; refine wp_vm_put (J := jU) rfl _ _ _ rfl Try.underlying55 (HM.out.ext (gr_none (gr_none (gr_alloc _ _ none) (gr_alloc _ _ none)) (gr_drewN _ _ none))) rfl (by unfold maxLen; omega) xh rfl _ rfl ?_; intro w4 hm4 g4)
    go_end0
    have g5 := gr_trans (gr_none (gr_none (gr_alloc w _ (some m)) (gr_alloc _ _ none)) (gr_drewN _ _ none)) g4 (.inl rfl)
    exact ⟨rfl, ⟨HB.out.gr g5 (by simpa using fun e => hbm e.symm), by rw [HP.out]; exact hm4⟩, g5⟩
  | some old =>
    obtain ⟨oh, on, od⟩ := old
    have hcb2 : ((w.alloc (.cells #[.int .u32 xh.toNat, .int .u32 xn.toNat, .int .u64 xd.toNat] 39)).alloc (.cells #[.int .u32 oh.toNat, .int .u32 on.toNat, .int .u64 od.toNat] 39)).cell? ⟨bp, 0, none⟩ = some (.map (some m)) := (gr_alloc _ _ none).cell hcb1 (by simp)
    have hlk := HL.out (w.alloc (.cells #[.int .u32 xh.toNat, .int .u32 xn.toNat, .int .u64 xd.toNat] 39)) (gr_alloc _ _ _)
    have hd : dom best xh = some (Lb.v ⟨oh, on, od⟩) := by unfold dom; rw [hb]; rfl
    simp only [hd] at hlk
    change (Instr.lookup 55 (.map (some m)) (.int .u32 xh.toNat) true).run Try.prog _ = .ok (.tuple #[.agg #[.int .u32 oh.toNat, .int .u32 on.toNat, .int .u64 od.toNat], .bool true]) _ at hlk
    have HC4 := Lib.hid (cmp64 xd.toNat od.toNat)
    have HC2 := Lib.hid (cmp32 xn.toNat on.toNat)
    have HOR := Lib.hid (or_any (cmpN xd.toNat od.toNat) (cmpN xn.toNat on.toNat))
    by_cases ha : ahd ⟨xh, xn, xd⟩ ⟨oh, on, od⟩ < 0
    · have HP := Lib.hid (putB_set (x := ⟨xh, xn, xd⟩) (.inr ⟨_, hb, ha⟩))
      unfold ahd at ha
      simp only [] at ha
      generalize cmpN xd.toNat od.toNat = c1 at *
      generalize cmpN xn.toNat on.toNat = c2 at *
      generalize orV c1 c2 = K at *
      clear h hb hd HL
      unfold Lb.v
      have KZ : Hid (∀ wz, ((w.alloc (.cells #[.int .u32 xh.toNat, .int .u32 xn.toNat, .int .u64 xd.toNat] 39)).alloc (.cells #[.int .u32 oh.toNat, .int .u32 on.toNat, .int .u64 od.toNat] 39)).grownBy wz none → wz.cell? ⟨bp, 0, none⟩ = some (.map (some m)) ∧ wz.cell? ⟨w.heap.size, 0, none⟩ = some (.int .u32 xh.toNat) ∧ wz.cell? ⟨w.heap.size, 1, none⟩ = some (.int .u32 xn.toNat) ∧ wz.cell? ⟨w.heap.size, 2, none⟩ = some (.int .u64 xd.toNat) ∧ wz.cell? ⟨w.heap.size + 1, 1, none⟩ = some (.int .u32 on.toNat) ∧ wz.cell? ⟨w.heap.size + 1, 2, none⟩ = some (.int .u64 od.toNat)) := fun wz hz =>
        ⟨hz.cell hcb2 (by simp), hz.cell (a := ⟨w.heap.size, 0, none⟩) (by simp) (by simp), hz.cell (a := ⟨w.heap.size, 1, none⟩) (by simp) (by simp), hz.cell (a := ⟨w.heap.size, 2, none⟩) (by simp) (by simp), hz.cell (a := ⟨w.heap.size + 1, 1, none⟩) (by simp) (by simp), hz.cell (a := ⟨w.heap.size + 1, 2, none⟩) (by simp) (by simp)⟩
      have HOZ : Hid (∀ (wx : World) (g : Nat), g = wx.heap.size → ((w.alloc (.cells #[.int .u32 xh.toNat, .int .u32 xn.toNat, .int .u64 xd.toNat] 39)).alloc (.cells #[.int .u32 oh.toNat, .int .u32 on.toNat, .int .u64 od.toNat] 39)).grownBy wx none → Calls Try.prog 28 #[.slice (some ⟨g, 0, none⟩) 2 2] (wx.alloc (.cells #[.int .i64 c1, .int .i64 c2] 3)).drew fun e wz => e = .returned (.int .i64 K) ∧ ((w.alloc (.cells #[.int .u32 xh.toNat, .int .u32 xn.toNat, .int .u64 xd.toNat] 39)).alloc (.cells #[.int .u32 oh.toNat, .int .u32 on.toNat, .int .u64 od.toNat] 39)).grownBy wz none ∧ wz.cell? ⟨bp, 0, none⟩ = some (.map (some m)) ∧ wz.cell? ⟨w.heap.size, 0, none⟩ = some (.int .u32 xh.toNat) ∧ wz.cell? ⟨w.heap.size, 1, none⟩ = some (.int .u32 xn.toNat) ∧ wz.cell? ⟨w.heap.size, 2, none⟩ = some (.int .u64 xd.toNat) ∧ wz.cell? ⟨w.heap.size + 1, 1, none⟩ = some (.int .u32 on.toNat) ∧ wz.cell? ⟨w.heap.size + 1, 2, none⟩ = some (.int .u64 od.toNat)) := fun wx g hg hb => by
        refine (HOR.out _ _ (Rd.ext (rd_two wx c1 c2 g hg) (gr_drew _ none))).mono ?_
        rintro e wz ⟨rfl, rfl⟩
        have hz := gr_none (gr_none hb (gr_alloc wx (.cells #[.int .i64 c1, .int .i64 c2] 3) none)) (gr_drew _ none)
        exact ⟨rfl, hz, KZ.out _ hz⟩
      go_enter Try.func27, Try.ntmps27
      go_wp2_with fail
      go_region_held3 (fun w' => w'.cell? ⟨w.heap.size, 1, none⟩ = some (.int .u32 xn.toNat) ∧ w'.cell? ⟨w.heap.size, 2, none⟩ = some (.int .u64 xd.toNat) ∧ w'.cell? ⟨w.heap.size + 1, 1, none⟩ = some (.int .u32 on.toNat) ∧ w'.cell? ⟨w.heap.size + 1, 2, none⟩ = some (.int .u64 od.toNat)) (go_keep) (first
        | (go_at_call 29; refine (HC4.out _).mono ?_; rintro e w1 ⟨rfl, rfl⟩)
        | (go_at_call 30; refine (HC2.out _).mono ?_; rintro e w1 ⟨rfl, rfl⟩)
        | (go_at_call 28; refine (HOZ.out _ _ ?_ ?_).mono ?_; simp; (first | exact gr_refl _ _ | exact gr_drew _ _ | exact gr_drewN _ _ _); rintro e wz ⟨rfl, gz, kz⟩))
      all_goals
        go_wp2_with (at_mapUpdate; refine wp_vm_put (J := jU) rfl _ _ _ rfl Try.underlying55 (HM.out.ext (gr_none (gr_none (gr_alloc _ _ none) (gr_alloc _ _ none)) (by first | exact gz | exact gr_none gz (gr_drew _ _) | exact gr_none gz (gr_drewN _ _ _)))) rfl (by unfold maxLen; omega) xh rfl _ rfl ?_; intro w4 hm4 g4)
        go_end0
        have g5 := gr_trans (gr_none (gr_none (gr_alloc w _ (some m)) (gr_alloc _ _ none)) (by first | exact gz | exact gr_none gz (gr_drew _ _) | exact gr_none gz (gr_drewN _ _ _))) g4 (.inl rfl)
        exact ⟨rfl, ⟨HB.out.gr g5 (by simpa using fun e => hbm e.symm), by rw [HP.out]; exact hm4⟩, g5⟩
    · have HP := Lib.hid (putB_keep (x := ⟨xh, xn, xd⟩) hb ha)
      unfold ahd at ha
      simp only [] at ha
      generalize cmpN xd.toNat od.toNat = c1 at *
      generalize cmpN xn.toNat on.toNat = c2 at *
      generalize orV c1 c2 = K at *
      clear h hb hd HL
      unfold Lb.v
      have KZ : Hid (∀ wz, ((w.alloc (.cells #[.int .u32 xh.toNat, .int .u32 xn.toNat, .int .u64 xd.toNat] 39)).alloc (.cells #[.int .u32 oh.toNat, .int .u32 on.toNat, .int .u64 od.toNat] 39)).grownBy wz none → wz.cell? ⟨bp, 0, none⟩ = some (.map (some m)) ∧ wz.cell? ⟨w.heap.size, 0, none⟩ = some (.int .u32 xh.toNat) ∧ wz.cell? ⟨w.heap.size, 1, none⟩ = some (.int .u32 xn.toNat) ∧ wz.cell? ⟨w.heap.size, 2, none⟩ = some (.int .u64 xd.toNat) ∧ wz.cell? ⟨w.heap.size + 1, 1, none⟩ = some (.int .u32 on.toNat) ∧ wz.cell? ⟨w.heap.size + 1, 2, none⟩ = some (.int .u64 od.toNat)) := fun wz hz =>
        ⟨hz.cell hcb2 (by simp), hz.cell (a := ⟨w.heap.size, 0, none⟩) (by simp) (by simp), hz.cell (a := ⟨w.heap.size, 1, none⟩) (by simp) (by simp), hz.cell (a := ⟨w.heap.size, 2, none⟩) (by simp) (by simp), hz.cell (a := ⟨w.heap.size + 1, 1, none⟩) (by simp) (by simp), hz.cell (a := ⟨w.heap.size + 1, 2, none⟩) (by simp) (by simp)⟩
      have HOZ : Hid (∀ (wx : World) (g : Nat), g = wx.heap.size → ((w.alloc (.cells #[.int .u32 xh.toNat, .int .u32 xn.toNat, .int .u64 xd.toNat] 39)).alloc (.cells #[.int .u32 oh.toNat, .int .u32 on.toNat, .int .u64 od.toNat] 39)).grownBy wx none → Calls Try.prog 28 #[.slice (some ⟨g, 0, none⟩) 2 2] (wx.alloc (.cells #[.int .i64 c1, .int .i64 c2] 3)).drew fun e wz => e = .returned (.int .i64 K) ∧ ((w.alloc (.cells #[.int .u32 xh.toNat, .int .u32 xn.toNat, .int .u64 xd.toNat] 39)).alloc (.cells #[.int .u32 oh.toNat, .int .u32 on.toNat, .int .u64 od.toNat] 39)).grownBy wz none ∧ wz.cell? ⟨bp, 0, none⟩ = some (.map (some m)) ∧ wz.cell? ⟨w.heap.size, 0, none⟩ = some (.int .u32 xh.toNat) ∧ wz.cell? ⟨w.heap.size, 1, none⟩ = some (.int .u32 xn.toNat) ∧ wz.cell? ⟨w.heap.size, 2, none⟩ = some (.int .u64 xd.toNat) ∧ wz.cell? ⟨w.heap.size + 1, 1, none⟩ = some (.int .u32 on.toNat) ∧ wz.cell? ⟨w.heap.size + 1, 2, none⟩ = some (.int .u64 od.toNat)) := fun wx g hg hb => by
        refine (HOR.out _ _ (Rd.ext (rd_two wx c1 c2 g hg) (gr_drew _ none))).mono ?_
        rintro e wz ⟨rfl, rfl⟩
        have hz := gr_none (gr_none hb (gr_alloc wx (.cells #[.int .i64 c1, .int .i64 c2] 3) none)) (gr_drew _ none)
        exact ⟨rfl, hz, KZ.out _ hz⟩
      go_enter Try.func27, Try.ntmps27
      go_wp2_with fail
      go_region_held3 (fun w' => w'.cell? ⟨w.heap.size, 1, none⟩ = some (.int .u32 xn.toNat) ∧ w'.cell? ⟨w.heap.size, 2, none⟩ = some (.int .u64 xd.toNat) ∧ w'.cell? ⟨w.heap.size + 1, 1, none⟩ = some (.int .u32 on.toNat) ∧ w'.cell? ⟨w.heap.size + 1, 2, none⟩ = some (.int .u64 od.toNat)) (go_keep) (first
        | (go_at_call 29; refine (HC4.out _).mono ?_; rintro e w1 ⟨rfl, rfl⟩)
        | (go_at_call 30; refine (HC2.out _).mono ?_; rintro e w1 ⟨rfl, rfl⟩)
        | (go_at_call 28; refine (HOZ.out _ _ ?_ ?_).mono ?_; simp; (first | exact gr_refl _ _ | exact gr_drew _ _ | exact gr_drewN _ _ _); rintro e wz ⟨rfl, gz, kz⟩))
      all_goals
        go_wp2_with fail
        go_end0
        have g5 := gr_none (gr_none (gr_alloc w _ (some m)) (gr_alloc _ _ none)) (by first | exact gz | exact gr_none gz (gr_drew _ _) | exact gr_none gz (gr_drewN _ _ _))
        exact ⟨rfl, ⟨HB.out.gr g5 (by simpa using fun e => hbm e.symm), by rw [HP.out]; exact (HM.out.ext (gr_none (gr_none (gr_alloc _ _ none) (gr_alloc _ _ none)) (by first | exact gz | exact gr_none gz (gr_drew _ _) | exact gr_none gz (gr_drewN _ _ _)))).mono (by omega)⟩, g5⟩
end Go.Proofs.Ytfgkmimhibpceaa
