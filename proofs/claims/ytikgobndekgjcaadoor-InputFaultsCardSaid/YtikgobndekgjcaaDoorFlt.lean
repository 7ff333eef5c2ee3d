/-
  InputFaults, the whole walk.
-/
import Derived.Test.YtikgobndekgjcaaDoorFlt2
namespace Go.Proofs.YtikgobndekgjcaaDoor
open Go.RowKit
set_option maxRecDepth 100000
set_option maxHeartbeats 400000

set_option maxHeartbeats 2000000 in
theorem faults_any (n : UInt32) (vl : Value) (at_ wh : UInt16) (X : UInt64) (l : List Ed) (w : World) (hg : Glob w) (h : RdE w vl l) :
    Calls Tryd.prog 7 #[.int .u32 n.toNat, vl, .agg #[.int .u16 at_.toNat, .int .u16 wh.toNat, .int .u64 X.toNat]] w fun e w' => e = .returned (.bool true) ∧ w.grownBy w' none := by
  have Hg := Lib.hid hg
  have HL := Lib.hid h
  have Ga := Lib.hid (gr_alloc w (.cells #[.int .u16 at_.toNat, .int .u16 wh.toNat, .int .u64 X.toNat] 46) none)
  by_cases hl : 1024 < l.length
  · obtain ⟨Al, cl, rfl⟩ := h.form
    clear hg h
    go_enter Tryd.func7, Tryd.ntmps7
    go_wp2_with (go_at_call 14; refine (works_any _ (Hg.out.ext Ga.out)).mono ?_; rintro e w1 ⟨rfl, g1⟩)
    go_ret
    exact ⟨rfl, gr_none Ga.out g1⟩
  by_cases hl0 : l.length = 0
  · obtain rfl : l = [] := List.eq_nil_of_length_eq_zero hl0
    obtain ⟨Al, cl, rfl⟩ := h.form
    clear hg h hl0
    simp only [List.length_nil]
    go_enter Tryd.func7, Tryd.ntmps7
    go_wp2_with (go_at_call 14; refine (works_any _ (Hg.out.ext Ga.out)).mono ?_; rintro e w1 ⟨rfl, g1⟩)
    go_ret
    exact ⟨rfl, gr_none Ga.out g1⟩
  rcases hok : writeOk n l with _ | _
  · obtain ⟨Al, cl, rfl⟩ := h.form
    have hz0 : ((l.length : Int) == 0) = false := by rw [beq_eq_false_iff_ne]; omega
    have Hok := Lib.hid hok
    have Hw := Lib.hid (write_any n _ l _ (HL.out.ext Ga.out) (by omega))
    clear hok hg h hl0
    go_enter Tryd.func7, Tryd.ntmps7
    go_wp2_with (first
      | (go_at_call 21; refine Hw.out.mono ?_; rintro e w1 ⟨r1, g1⟩; obtain ⟨A1, c1, rfl⟩ := resW_bad Hok.out r1)
      | (go_at_call 14; refine (works_any _ (Hg.out.ext (gr_none Ga.out g1))).mono ?_; rintro e w2 ⟨rfl, g2⟩))
    go_ret
    exact ⟨rfl, gr_none (gr_none Ga.out g1) g2⟩
  · have h3 : wh.toNat % 3 = 0 ∨ wh.toNat % 3 = 1 ∨ wh.toNat % 3 = 2 := by omega
    rcases h3 with h3 | h3 | h3
    · exact faults0 n vl at_ wh X l w hg h (by omega) (by omega) hok h3
    · exact faults1 n vl at_ wh X l w hg h (by omega) (by omega) hok h3
    · exact faults2 n vl at_ wh X l w hg h (by omega) (by omega) hok h3
end Go.Proofs.YtikgobndekgjcaaDoor
