/-
  InputWrites, the walk.
-/
import Derived.Test.YtikgobndekgjcaaDoorApart
namespace Go.Proofs.YtikgobndekgjcaaDoor
open Go.RowKit
set_option maxRecDepth 100000
set_option maxHeartbeats 400000

theorem writeM_len (n : UInt32) (l : List Ed) : (writeM n l).1.length ≤ 12 + 16 * l.length := by
  unfold writeM
  split
  · rw [length_written]; exact Nat.le_refl _
  · simp
/-- two lists in memory of their own. -/
theorem apt_two {w0 w : World} {va vc : Value} {b : List UInt8} {m : Nat} (hm0 : w0.heap.size ≤ m) (ha : OwnB w w0.heap.size va b) (hal : ∀ k, blk va = some k → k < m) (hc : OwnB w m vc b) :
    Apt (w.alloc (.cells #[va, vc] 22)) w0.heap.size (.slice (some ⟨w.heap.size, 0, none⟩) 2 2) [va, vc] [b, b] where
  len := rfl
  row := rd_lit w 1 2 2 #[va, vc] 22 rfl (Nat.le_refl _) (by unfold maxLen; omega)
  own := fun i hi hj => by
    rcases i with _ | _ | i
    · exact Own.alloc ha _
    · exact Own.alloc (Own.mono hc hm0) _
    · simp at hi; omega
  sep := fun i j hi hj hij k h1 h2 => by
    have f : ∀ k, blk va = some k → blk vc ≠ some k := fun k e e2 => by have := hal k e; have := (Own.blk_lt hc (by omega) e2).1; omega
    rcases i with _ | _ | i
    · rcases j with _ | _ | j
      · exact hij rfl
      · exact f k h1 h2
      · simp at hj; omega
    · rcases j with _ | _ | j
      · exact f k h2 h1
      · exact hij rfl
      · simp at hj; omega
    · simp at hi; omega
  far := fun i hi k h1 h2 => by
    cases h2
    rcases i with _ | _ | i
    · exact absurd (Own.blk_lt ha (by omega) h1).2 (Nat.lt_irrefl _)
    · exact absurd (Own.blk_lt hc (by omega) h1).2 (Nat.lt_irrefl _)
    · simp at hi; omega

set_option maxHeartbeats 1000000 in
theorem writes_any (n : UInt32) (vl : Value) (l : List Ed) (w : World) (hg : Glob w) (h : RdE w vl l) :
    Calls Tryd.prog 4 #[.int .u32 n.toNat, vl] w fun e w' => e = .returned (.bool true) ∧ w.grownBy w' none := by
  obtain ⟨Al, cl, rfl⟩ := h.form
  have Hg := Lib.hid hg
  have HL := Lib.hid h
  clear hg h
  by_cases hbig : 4096 < l.length
  · go_enter Tryd.func4, Tryd.ntmps4
    go_wp2_with (go_at_call 14; refine (works_any _ Hg.out).mono ?_; rintro e w1 ⟨rfl, g1⟩)
    go_ret
    exact ⟨rfl, g1⟩
  have Hc := Lib.hid (copyE_any _ l w HL.out (by omega))
  have hbl := writeM_len n l
  go_enter Tryd.func4, Tryd.ntmps4
  go_wp2_with fail
  refine Hc.out.mono ?_
  rintro e w1 ⟨⟨v1, rfl, o1⟩, g1⟩
  have O1 := Lib.hid o1
  have G1 := Lib.hid g1
  clear o1 g1
  have hw := fun wx (hx : World.grownBy w1 wx none) => write_any n v1 l wx (O1.out.rd.ext hx) (by omega)
  have hr := fun wx (hx : World.grownBy w wx none) => rwrite_any n _ l wx (HL.out.ext hx)
  unfold ResW at hw hr
  have Hw := Lib.hid hw
  have Hr := Lib.hid hr
  clear hw hr
  go_wp2_with fail
  refine (Hw.out _ (gr_refl _ _)).mono ?_
  rintro e w2 ⟨⟨v2, rfl, o2⟩, g2⟩
  have O2 := Lib.hid o2
  have G2 := Lib.hid g2
  clear o2 g2
  go_wp2_with fail
  refine (Hr.out _ (gr_none G1.out G2.out)).mono ?_
  rintro e w3 ⟨⟨v3, rfl, o3⟩, g3⟩
  have O3 := Lib.hid o3
  have G3 := Lib.hid g3
  have G13 := Lib.hid (gr_none G2.out g3)
  clear o3 g3
  generalize (writeM n l).2 = er at *
  have O2' := Lib.hid (O2.out.rd.ext G3.out)
  generalize (writeM n l).1 = b at *
  go_wp2_with (first
    | (go_at_call 23; refine (eqBytes_any _ _ b b _ O2'.out O3.out.rd).mono ?_; rintro e w4 ⟨rfl, rfl⟩; rw [beq_self_eq_true])
    | (go_at_call 18; refine (eqE_any _ _ l l _ (O1.out.rd.ext G13.out) (HL.out.ext (gr_none G1.out G13.out)) (by omega) (by omega)).mono ?_; rintro e w5 ⟨⟨bb, rfl, hbb⟩, g5⟩; obtain rfl := hbb.2 rfl))
  have G15 := Lib.hid (gr_none G13.out g5)
  have G25 := Lib.hid (gr_none G3.out g5)
  clear g5
  go_wp2_with fail
  refine (Hw.out _ G15.out).mono ?_
  rintro e w6 ⟨⟨v6, rfl, o6⟩, g6⟩
  have hz1 := G1.out.size
  have hz2 := G2.out.size
  have hz5 := G25.out.size
  have A0 := apt_two (w0 := w) (m := w5.heap.size) (by omega) (Own.ext (Own.ext (Own.mono O2.out hz1) G25.out) g6) (fun k e => by have := (Own.blk_lt O2.out (by omega) e).2; omega) o6
  have G16 := Lib.hid (gr_none (gr_none G1.out G15.out) g6)
  have A1 := Lib.hid A0
  have Ga := Lib.hid (gr_none G16.out (gr_alloc w6 (.cells #[v2, v6] 22) none))
  obtain ⟨Aa, ca, rfl⟩ := O2.out.rd.form
  obtain ⟨Ac, cc, rfl⟩ := o6.rd.form
  clear A0 o6 g6
  have Hls : Hid (∀ i (hi : i < [b, b].length), [b, b][i].length ≤ 1000000) := fun i hi => by
    rcases i with _ | _ | i
    · show b.length ≤ 1000000; omega
    · show b.length ≤ 1000000; omega
    · simp at hi; omega
  go_wp2_with fail
  refine (apart_any _ _ [b, b] w _ Ga.out A1.out (by simp) Hls.out).mono ?_
  rintro e w7 ⟨rfl, g7⟩
  go_wp2_with (go_at_call 14; refine (works_any _ (Hg.out.ext g7)).mono ?_; rintro e w8 ⟨rfl, g8⟩)
  go_ret
  exact ⟨rfl, gr_none g7 g8⟩
end Go.Proofs.YtikgobndekgjcaaDoor
