/-
  input.Check, input.Head, input.Row; the reference's Check.
-/
import Derived.Test.YtikgobndekgjcaaDoorChk
namespace Go.Proofs.YtikgobndekgjcaaDoor
open Go.RowKit
set_option maxRecDepth 100000
set_option maxHeartbeats 400000

/-- what Check answers: vertices, edges, an error's number and a place. -/
def ResC4 (B : Nat) (r : Nat × List Ed × Flt) (e : Ending) (w' : World) : Prop := ∃ v, e = .returned (.tuple #[.int .u32 r.1, v, .int .i64 (r.2.2.e : Nat), .int .i64 (r.2.2.p : Nat)]) ∧ OwnE w' B v r.2.1

theorem Check_any (v : Value) (b : List UInt8) (w : World) (hg : Glob w) (h : RdB w v b) (hl : b.length ≤ 1000000000) :
    Calls Tryd.prog 16 #[v] w fun e w' => ResC4 w.heap.size (checkM b) e w' ∧ w.grownBy w' none := by
  have hc := check_any v b w h hl
  generalize checkM b = r at *
  obtain ⟨n, l, f⟩ := r
  have Hc := Lib.hid hc
  have Hg := Lib.hid hg
  clear hc h hg
  go_enter Tryd.func16, Tryd.ntmps16
  go_wp2_with (first | (go_at_call 32; refine Hc.out.mono ?_; rintro e w1 ⟨⟨v1, rfl, h1⟩, g1⟩) | (go_at_call 33; refine (told_any f _ (Hg.out.ext g1)).mono ?_; rintro e w2 ⟨rfl, g2⟩))
  (try simp only [Exit.inBlock, Exit.then])
  refine bodyPost_ret (results_four rfl _ _ _) rfl ?_
  exact ⟨⟨_, rfl, h1.ext g2⟩, gr_none g1 g2⟩

theorem headM_bound (b : List UInt8) : (headM b).1 ≤ 2147483647 ∧ (headM b).2.1 ≤ 16777216 := by
  unfold headM
  split
  · simp
  · repeat' split
    all_goals simp <;> omega
theorem Head_any (v : Value) (b : List UInt8) (w : World) (hg : Glob w) (h : RdB w v b) (hl : b.length ≤ 1000000000) :
    Calls Tryd.prog 25 #[v] w fun e w' => Res4 b e ∧ w.grownBy w' none := by
  have hc := head_any v b w h hl
  unfold ResH at hc
  unfold Res4
  have hb := headM_bound b
  generalize headM b = r at *
  obtain ⟨n, m, f⟩ := r
  obtain ⟨hn, hm⟩ := hb
  have Hc := Lib.hid hc
  have Hg := Lib.hid hg
  clear hc h hg
  go_enter Tryd.func25, Tryd.ntmps25
  go_wp2_with (first | (go_at_call 35; refine Hc.out.mono ?_; rintro e w1 ⟨rfl, g1⟩) | (go_at_call 33; refine (told_any f _ (Hg.out.ext g1)).mono ?_; rintro e w2 ⟨rfl, g2⟩))
  (try simp only [Exit.inBlock, Exit.then])
  refine bodyPost_ret (results_four rfl _ _ _) rfl ?_
  exact ⟨rfl, gr_none g1 g2⟩

set_option maxHeartbeats 1000000 in
theorem Row_any (v : Value) (b : List UInt8) (n : UInt32) (w : World) (hg : Glob w) (h : RdB w v b) (hl : b.length ≤ 1000000000) :
    Calls Tryd.prog 27 #[v, .int .u32 n.toNat] w fun e w' => ResR3 (rowM b n 0) e ∧ w.grownBy w' none := by
  have hc : ∀ W, RdB W v b → Calls Tryd.prog 37 #[v, .int .u32 n.toNat, .int .i64 0] W fun e w' => ResR (rowM b n 0) e ∧ W.grownBy w' none := fun W hW => row_any v b n 0 W hW hl (by omega)
  unfold ResR at hc
  unfold ResR3
  generalize rowM b n 0 = r at *
  obtain ⟨⟨t, hd, x, m⟩, f⟩ := r
  have Hc := Lib.hid hc
  have Hg := Lib.hid hg
  have Hr := Lib.hid h
  clear hc h hg
  simp only [Ed.v, Ed.cells, u32v, u64v] at *
  go_enter Tryd.func27, Tryd.ntmps27
  go_wp2_with fail
  refine (Hc.out _ (Hr.out.ext (gr_alloc _ _ _))).mono ?_
  rintro e w1 ⟨rfl, g1⟩
  have G1 := Lib.hid (gr_none (gr_alloc w (.cells #[.int .u32 0, .int .u32 0, .int .u64 0, .int .u32 0] 34) none) g1)
  have K1 := Lib.hid ((Blk.new w 34 #[.int .u32 0, .int .u32 0, .int .u64 0, .int .u32 0]).ext g1)
  clear g1
  go_wp2_with fail
  refine (told_any f _ (Hg.out.ext (gr_none G1.out (gr_alloc _ _ _)))).mono ?_
  rintro e w2 ⟨rfl, g2⟩
  have G2 := Lib.hid (gr_none (gr_none G1.out (gr_alloc _ _ _)) g2)
  have K2 := (K1.out.ext (gr_alloc w1 (.cells #[.int .u32 t.toNat, .int .u32 hd.toNat, .int .u64 x.toNat, .int .u32 m.toNat] 34) none)).ext g2
  have L2 := (Blk.new w1 34 #[.int .u32 t.toNat, .int .u32 hd.toNat, .int .u64 x.toNat, .int .u32 m.toNat]).ext g2
  have c1 := K2.cell
  have c2 := L2.cell
  have f1 := K2.frozen
  have l1 := K2.lt
  have l2 := L2.lt
  have hne : w.heap.size < w1.heap.size := K1.out.lt
  clear g2 K2 L2
  go_wp2
  exact bodyPost_ret (v := .tuple #[.agg #[.int .u32 t.toNat, .int .u32 hd.toNat, .int .u64 x.toNat, .int .u32 m.toNat], .int .i64 f.e, .int .i64 f.p])
    (by simp [results, Tryd.results27, go_sem, c1]) rfl ⟨rfl, by repeat (first | exact G2.out | refine gr_set_new ?_ _ _ (Nat.le_refl _))⟩
end Go.Proofs.YtikgobndekgjcaaDoor
