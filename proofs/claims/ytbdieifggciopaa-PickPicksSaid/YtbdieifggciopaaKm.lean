/-
  Pick: the later one of two neighbours goes.
-/
import Derived.Test.YtbdieifggciopaaKs
namespace Go.Proofs.Ytbdieifggciopaa
open Go.RowKit
set_option maxRecDepth 100000
set_option maxHeartbeats 400000

noncomputable abbrev jU := u32K Try.prog 30 Try.underlying30
def domS (S : UInt32 → Bool) (v : UInt32) : Option Value := if S v then some (.agg #[]) else none
def addS (S : UInt32 → Bool) (x : UInt32) (v : UInt32) : Bool := if v = x then true else S v
theorem domS_add (S : UInt32 → Bool) (x : UInt32) : (fun z => if z = x then some (Value.agg #[]) else domS S z) = domS (addS S x) := by
  funext z
  unfold domS addS
  by_cases e : z = x
  · rw [if_pos e, if_pos e]; rfl
  · rw [if_neg e, if_neg e]
/-- who is late: the box, and the map in it. -/
structure LateS (w : World) (bp m n : Nat) (S : UInt32 → Bool) : Prop where
  box : Blk w bp 42 #[.map (some m)]
  vm : VM jU w m n (domS S)
theorem LateS.ne {w : World} {bp m n : Nat} {S : UInt32 → Bool} (h : LateS w bp m n S) : bp ≠ m := by
  intro e
  obtain ⟨D, ⟨es, cl, h1, _⟩, _⟩ := h.vm
  have h2 := h.box
  unfold Blk at h2
  rw [e, h1] at h2
  cases h2
theorem LateS.gr {w w' : World} {bp m n : Nat} {S : UInt32 → Bool} (h : LateS w bp m n S) {r : Option Nat} (hg : w.grownBy w' r) (h1 : r ≠ some bp) (h2 : r ≠ some m) : LateS w' bp m n S := ⟨h.box.gr hg h1, h.vm.gr hg h2⟩
theorem LateS.ext {w w' : World} {bp m n : Nat} {S : UInt32 → Bool} (h : LateS w bp m n S) (hg : w.grownBy w' none) : LateS w' bp m n S := h.gr hg (by simp) (by simp)
theorem LateS.mono {w : World} {bp m n n' : Nat} {S : UInt32 → Bool} (h : LateS w bp m n S) (hn : n ≤ n') : LateS w bp m n' S := ⟨h.box, h.vm.mono hn⟩
theorem LateS.put {w w' : World} {bp m n : Nat} {S : UInt32 → Bool} (h : LateS w bp m n S) (hg : w.grownBy w' (some m)) {x : UInt32} (hv : VM jU w' m (n + 1) (fun z => if z = x then some (Value.agg #[]) else domS S z)) : LateS w' bp m (n + 1) (addS S x) :=
  ⟨h.box.gr hg (by simpa using fun e => h.ne e.symm), by rw [← domS_add]; exact hv⟩
/-- what meeting makes of it. -/
def meetS (x y : Dt) (S : UInt32 → Bool) : UInt32 → Bool := if x.v = y.v then S else addS S (if aheadD x y then y.v else x.v)
set_option maxHeartbeats 2000000 in
theorem meet_any {w : World} {bp m n : Nat} {S : UInt32 → Bool} (h : LateS w bp m n S) (hn : n ≤ 1000000000) (x y : Cd) :
    Calls Try.prog 18 #[x.agg, y.agg, .pointer (some ⟨bp, 0, none⟩)] w fun e w' => e = .returned (.tuple #[]) ∧ LateS w' bp m (n + 1) (meetS x.d y.d S) ∧ w.grownBy w' (some m) := by
  have HL := Lib.hid h
  have hcb : w.cell? ⟨bp, 0, none⟩ = some (.map (some m)) := h.box.cell 0
  have HA := Lib.hid (ahead_any x y)
  obtain ⟨⟨xa, xb, xl⟩, xs⟩ := x
  obtain ⟨⟨ya, yb, yl⟩, ys⟩ := y
  have G0 : Hid (w.grownBy ((w.alloc (.cells #[.int .u32 xa.toNat, .int .u64 xb.toNat, xs] 33)).alloc (.cells #[.int .u32 ya.toNat, .int .u64 yb.toNat, ys] 33)) none) := gr_none (gr_alloc w _ none) (gr_alloc _ _ none)
  have HCB : Hid (∀ wz, w.grownBy wz none → wz.cell? ⟨bp, 0, none⟩ = some (.map (some m))) := fun wz hz => hz.cell hcb (by simp)
  have hcb2 := HCB.out _ G0.out
  have HXY : Hid (∀ wz, ((w.alloc (.cells #[.int .u32 xa.toNat, .int .u64 xb.toNat, xs] 33)).alloc (.cells #[.int .u32 ya.toNat, .int .u64 yb.toNat, ys] 33)).grownBy wz none → wz.cell? ⟨w.heap.size, 0, none⟩ = some (.int .u32 xa.toNat) ∧ wz.cell? ⟨w.heap.size + 1, 0, none⟩ = some (.int .u32 ya.toNat)) := fun wz hz => 
    ⟨hz.cell (a := ⟨w.heap.size, 0, none⟩) (by simp) (by simp), hz.cell (a := ⟨w.heap.size + 1, 0, none⟩) (by simp) (by simp)⟩
  clear h hcb
  by_cases he : xa.toNat = ya.toNat
  · have b1 : ((xa.toNat : Int) == (ya.toNat : Int)) = true := by simp; omega
    have HM : Hid (meetS ⟨xa, xb, xl⟩ ⟨ya, yb, yl⟩ S = S) := by show _ = _; unfold meetS; rw [if_pos (UInt32.toNat_inj.1 he)]
    clear he
    unfold Cd.agg
    go_enter Try.func18, Try.ntmps18
    go_wp2
    go_end0
    exact ⟨rfl, by rw [HM.out]; exact (HL.out.ext G0.out).mono (by omega), gr_of_none G0.out⟩
  · have b1 : ((xa.toNat : Int) == (ya.toNat : Int)) = false := by simp; omega
    have hne : xa ≠ ya := fun e => he (by rw [e])
    by_cases ha : aheadD ⟨xa, xb, xl⟩ ⟨ya, yb, yl⟩
    · have HM : Hid (meetS ⟨xa, xb, xl⟩ ⟨ya, yb, yl⟩ S = addS S ya) := by show _ = _; unfold meetS; rw [if_neg hne, if_pos ha]
      have HA2 : Hid (∀ wx, Calls Try.prog 19 #[.agg #[.int .u32 xa.toNat, .int .u64 xb.toNat, xs], .agg #[.int .u32 ya.toNat, .int .u64 yb.toNat, ys]] wx fun e w' => e = .returned (.bool true) ∧ wx.grownBy w' none) := fun wx => by
        have := HA.out wx
        simp only [ha, decide_true] at this
        exact this
      clear he hne ha HA
      unfold Cd.agg
      go_enter Try.func18, Try.ntmps18
      go_wp2_with fail
      refine (HA2.out _).mono ?_
      rintro e w3 ⟨rfl, g3⟩
      have G3 := Lib.hid (gr_none G0.out g3)
      obtain ⟨k1, k2⟩ := HXY.out w3 g3
      have k3 := HCB.out w3 G3.out
      clear g3 hcb2
      go_wp2_with (at_mapUpdate; refine wp_vm_put (J := jU) rfl _ _ _ rfl Try.underlying42 (HL.out.ext G3.out).vm rfl (by unfold maxLen; omega) ya rfl _ rfl ?_; intro w4 hm4 g4)
      go_end0
      exact ⟨rfl, by rw [HM.out]; exact (HL.out.ext G3.out).put g4 hm4, gr_trans (gr_of_none G3.out) g4 (.inl rfl)⟩
    · have HM : Hid (meetS ⟨xa, xb, xl⟩ ⟨ya, yb, yl⟩ S = addS S xa) := by show _ = _; unfold meetS; rw [if_neg hne, if_neg ha]
      have HA2 : Hid (∀ wx, Calls Try.prog 19 #[.agg #[.int .u32 xa.toNat, .int .u64 xb.toNat, xs], .agg #[.int .u32 ya.toNat, .int .u64 yb.toNat, ys]] wx fun e w' => e = .returned (.bool false) ∧ wx.grownBy w' none) := fun wx => by
        have := HA.out wx
        simp only [ha, decide_false] at this
        exact this
      clear he hne ha HA
      unfold Cd.agg
      go_enter Try.func18, Try.ntmps18
      go_wp2_with fail
      refine (HA2.out _).mono ?_
      rintro e w3 ⟨rfl, g3⟩
      have G3 := Lib.hid (gr_none G0.out g3)
      obtain ⟨k1, k2⟩ := HXY.out w3 g3
      have k3 := HCB.out w3 G3.out
      clear g3 hcb2
      go_wp2_with (at_mapUpdate; refine wp_vm_put (J := jU) rfl _ _ _ rfl Try.underlying42 (HL.out.ext G3.out).vm rfl (by unfold maxLen; omega) xa rfl _ rfl ?_; intro w4 hm4 g4)
      go_end0
      exact ⟨rfl, by rw [HM.out]; exact (HL.out.ext G3.out).put g4 hm4, gr_trans (gr_of_none G3.out) g4 (.inl rfl)⟩
end Go.Proofs.Ytbdieifggciopaa
