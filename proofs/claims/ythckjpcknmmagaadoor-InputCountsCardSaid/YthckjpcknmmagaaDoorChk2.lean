/-
  input.Check, input.Head, input.Row; the reference's Check.
-/
import Derived.Test.YthckjpcknmmagaaDoorChk
namespace Go.Proofs.YthckjpcknmmagaaDoor
open Go.RowKit
set_option maxRecDepth 100000
set_option maxHeartbeats 400000

/-- what Check answers: vertices, edges, an error's number and a place. -/
def ResC4 (B : Nat) (r : Nat × List Ed × Flt) (e : Ending) (w' : World) : Prop := ∃ v, e = .returned (.tuple #[.int .u32 r.1, v, .int .i64 (r.2.2.e : Nat), .int .i64 (r.2.2.p : Nat)]) ∧ OwnE w' B v r.2.1

theorem Check_any (v : Value) (b : List UInt8) (w : World) (hg : Glob w) (h : RdB w v b) (hl : b.length ≤ 1000000000) :
    Calls Tryd.prog 12 #[v] w fun e w' => ResC4 w.heap.size (checkM b) e w' ∧ w.grownBy w' none := by
  have hc := check_any v b w h hl
  generalize checkM b = r at *
  obtain ⟨n, l, f⟩ := r
  have Hc := Lib.hid hc
  have Hg := Lib.hid hg
  clear hc h hg
  go_enter Tryd.func12, Tryd.ntmps12
  go_wp2_with (first | (go_at_call 25; refine Hc.out.mono ?_; rintro e w1 ⟨⟨v1, rfl, h1⟩, g1⟩) | (go_at_call 26; refine (told_any f _ (Hg.out.ext g1)).mono ?_; rintro e w2 ⟨rfl, g2⟩))
  (try simp only [Exit.inBlock, Exit.then])
  refine bodyPost_ret (results_four rfl _ _ _) rfl ?_
  exact ⟨⟨_, rfl, h1.ext g2⟩, gr_none g1 g2⟩

theorem headM_bound (b : List UInt8) : (headM b).1 ≤ 2147483647 ∧ (headM b).2.1 ≤ 16777216 := by
  unfold headM
  split
  · simp
  · repeat' split
    all_goals simp <;> omega
end Go.Proofs.YthckjpcknmmagaaDoor
