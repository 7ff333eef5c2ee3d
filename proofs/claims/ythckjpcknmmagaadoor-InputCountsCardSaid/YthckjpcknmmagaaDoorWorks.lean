/-
  the anchor of the layer's statements.
-/
import Derived.Test.YthckjpcknmmagaaDoorEdg
namespace Go.Proofs.YthckjpcknmmagaaDoor
open Go.RowKit
set_option maxRecDepth 100000
set_option maxHeartbeats 400000

def wE : Ed := ⟨0, 1, 5, 0⟩
def wF : Ed := ⟨0, 1, 5, 4294967295⟩
def wB : List UInt8 := [77, 80, 71, 49, 2, 0, 0, 0, 1, 0, 0, 0, 0, 0, 0, 0, 1, 0, 0, 0, 5, 0, 0, 0, 0, 0, 0, 0]
theorem w_write : writeM 2 [wE] = (wB, 0) := by kernel_rfl
theorem w_check : checkM wB = (2, [wF], none) := by kernel_rfl
theorem w_cut : checkM (wB.take 27) = (0, [], some (8, 27)) := by kernel_rfl
theorem w_len : wB.length = 28 := rfl
theorem w_rd (w : World) : RdE (w.alloc (.cells #[.int .u32 0, .int .u32 1, .int .u64 5, .int .u32 0] 29)) (.slice (some ⟨w.heap.size, 0, none⟩) 1 1) [wE] :=
  rd_lit w 4 1 1 #[.int .u32 0, .int .u32 1, .int .u64 5, .int .u32 0] 29 rfl (Nat.le_refl _) (by unfold maxLen; omega)

set_option maxHeartbeats 1000000 in
theorem works_any (w : World) (hg : Glob w) : Calls Tryd.prog 6 #[] w fun e w' => e = .returned (.bool true) ∧ w.grownBy w' none := by
  have hw := write_any 2 _ [wE] _ (w_rd w) (by simp)
  unfold ResW at hw
  rw [w_write] at hw
  have Hw := Lib.hid hw
  have Hg := Lib.hid hg
  clear hw hg
  go_enter Tryd.func6, Tryd.ntmps6
  go_wp2_with fail
  refine Hw.out.mono ?_
  rintro e w1 ⟨⟨v1, rfl, h1⟩, g1⟩
  have G1 := gr_none (gr_alloc w (.cells #[.int .u32 0, .int .u32 1, .int .u64 5, .int .u32 0] 29) none) g1
  have hc := Check_any v1 wB w1 (Hg.out.ext G1) h1.rd (by rw [w_len]; omega)
  unfold ResC4 at hc
  rw [w_check] at hc
  simp only [Flt.e, Flt.p, Option.getD] at hc
  have Hc := Lib.hid hc
  obtain ⟨A1, q1, rfl⟩ := h1.rd.form
  have hq := h1.rd.cap
  have H1 := Lib.hid h1
  have HG1 := Lib.hid G1
  clear hc g1 h1 G1
  rw [w_len] at hq
  have h28 : ((wB.length : Int) != 28) = false := by rw [bne_eq_false_iff_eq, w_len]; rfl
  go_wp2_with fail
  refine Hc.out.mono ?_
  rintro e w2 ⟨⟨v2, rfl, h2⟩, g2⟩
  obtain ⟨A2, q2, rfl⟩ := h2.rd.form
  obtain ⟨gg, off, hA2, hc2⟩ := h2.rd.at_
  have := hA2 (by simp)
  subst this
  obtain ⟨c0, c1, c2, c3⟩ := at4 hc2 (gr_refl _ none) (k := 0) (by simp) (show [wF][0] = ⟨0, 1, 5, 4294967295⟩ from rfl)
  simp at c0 c1 c2 c3
  have G2 := Lib.hid (gr_none HG1.out g2)
  have ht : RdB w2 (.slice A1 27 q1) (wB.take 27) := ((Own.take (k := 27) H1.out (by rw [w_len]; omega)).ext g2).rd
  have hk := Check_any _ (wB.take 27) w2 (Hg.out.ext G2.out) ht (by rw [List.length_take, w_len]; omega)
  unfold ResC4 at hk
  rw [w_cut] at hk
  simp only [Flt.e, Flt.p, Option.getD] at hk
  have Hk := Lib.hid hk
  clear hk ht h2 hA2 hc2 g2
  simp only [List.length_cons, List.length_nil]
  go_wp2_with (go_at_call 12; refine Hk.out.mono ?_; rintro e w3 ⟨⟨v3, rfl, -⟩, g3⟩)
  go_ret
  exact ⟨rfl, gr_none G2.out g3⟩
end Go.Proofs.YthckjpcknmmagaaDoor
