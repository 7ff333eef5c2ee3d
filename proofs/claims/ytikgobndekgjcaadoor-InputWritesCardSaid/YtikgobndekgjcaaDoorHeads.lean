/-
  InputHeads, the law's own walk.
-/
import Derived.Test.YtikgobndekgjcaaDoorMarks
namespace Go.Proofs.YtikgobndekgjcaaDoor
open Go.RowKit
set_option maxRecDepth 100000
set_option maxHeartbeats 400000

set_option maxHeartbeats 2000000 in
theorem heads_any (v : Value) (b : List UInt8) (n : UInt32) (w : World) (hg : Glob w) (h : RdB w v b) :
    Calls Tryd.prog 9 #[v, .int .u32 n.toNat] w fun e w' => e = .returned (.bool true) ∧ w.grownBy w' none := by
  obtain ⟨A, c, rfl⟩ := h.form
  by_cases hl : 131072 < b.length
  · go_enter Tryd.func9, Tryd.ntmps9
    go_wp2_with (go_at_call 14; refine (works_any _ hg).mono ?_; rintro e w1 ⟨rfl, g1⟩)
    go_ret
    exact ⟨rfl, g1⟩
  have Hr := Lib.hid h
  have Hg := Lib.hid hg
  have hroom := roomy_any _ b w h (by omega)
  have Hroom := Lib.hid hroom
  clear hroom h hg
  go_enter Tryd.func9, Tryd.ntmps9
  go_wp2_with fail
  refine Hroom.out.mono ?_
  rintro e w1 ⟨⟨A1, c1, rfl, o1⟩, g1⟩
  have R1 := Lib.hid o1.rd
  have hlen : (b ++ guardB).length = b.length + 7 := by simp [guardB]
  have ht : RdB w1 (.slice A1 b.length c1) b := by
    have := (Own.take (k := b.length) o1 (by omega)).rd
    rw [← List.map_take, List.take_left] at this
    exact this
  have HT := Lib.hid ht
  have G1 := Lib.hid g1
  have hh := fun wx (hx : w1.grownBy wx none) => Head_any _ b wx (Hg.out.ext (gr_none g1 hx)) (ht.ext hx) (by omega)
  have hrh := fun wx (hx : w.grownBy wx none) => rhead_any _ b wx (Hr.out.ext hx) (by omega)
  have hr := fun wx (hx : w1.grownBy wx none) => Row_any _ b n wx (Hg.out.ext (gr_none g1 hx)) (ht.ext hx) (by omega)
  have hrr := fun wx (hx : w.grownBy wx none) => rrow_any _ b n wx (Hr.out.ext hx) (by omega)
  unfold Res4 at hh hrh
  unfold ResR3 at hr hrr
  generalize headM b = r at *
  generalize rowM b n 0 = s at *
  obtain ⟨p, q, f⟩ := r
  obtain ⟨⟨t, hd, x, m⟩, fs⟩ := s
  simp only [Ed.v, Ed.cells, u32v, u64v, Flt.e, Flt.p] at hh hrh hr hrr
  generalize ((Option.getD f (0, 0)).1 : Nat) = fe at *
  generalize ((Option.getD f (0, 0)).2 : Nat) = fp at *
  generalize ((Option.getD fs (0, 0)).1 : Nat) = se at *
  generalize ((Option.getD fs (0, 0)).2 : Nat) = sp at *
  have Hh := Lib.hid hh
  have Hrh := Lib.hid hrh
  have Hr1 := Lib.hid hr
  have Hrr := Lib.hid hrr
  clear hh hrh hr hrr ht o1 g1 hlen
  go_wp2_with fail
  refine (Hh.out _ (gr_refl _ _)).mono ?_
  rintro e w2 ⟨rfl, g2⟩
  have G2 := Lib.hid g2
  clear g2
  go_wp2_with fail
  refine (Hrh.out _ (gr_none G1.out G2.out)).mono ?_
  rintro e w3 ⟨rfl, g3⟩
  have G3 := Lib.hid (gr_none G2.out g3)
  clear g3
  go_wp2_with fail
  refine (Hr1.out _ G3.out).mono ?_
  rintro e w4 ⟨rfl, g4⟩
  have G4 := Lib.hid (gr_none (gr_none G3.out g4) (gr_alloc w4 (.cells #[.int .u32 t.toNat, .int .u32 hd.toNat, .int .u64 x.toNat, .int .u32 m.toNat] 34) none))
  have K4 := Lib.hid (Blk.new w4 34 #[.int .u32 t.toNat, .int .u32 hd.toNat, .int .u64 x.toNat, .int .u32 m.toNat])
  clear g4
  go_wp2_with fail
  refine (Hrr.out _ (gr_none G1.out G4.out)).mono ?_
  rintro e w5 ⟨rfl, g5⟩
  have g5' := gr_none g5 (gr_alloc w5 (.cells #[.int .u32 t.toNat, .int .u32 hd.toNat, .int .u64 x.toNat, .int .u32 m.toNat] 34) none)
  have G5 := Lib.hid (gr_none G4.out g5')
  have c5 := (K4.out.ext g5').cell
  have k5 := (Blk.new w5 34 #[.int .u32 t.toNat, .int .u32 hd.toNat, .int .u64 x.toNat, .int .u32 m.toNat]).cell
  clear g5 g5'
  go_wp2_with (first
    | (go_at_call 19; refine (kept_true A1 b.length c1 _ b _ rfl (R1.out.ext G5.out) (Hr.out.ext (gr_none G1.out G5.out)) (by omega)).mono ?_; rintro e w6 ⟨rfl, g6⟩)
    | (go_at_call 14; refine (works_any _ (Hg.out.ext (gr_none (gr_none G1.out G5.out) g6))).mono ?_; rintro e w7 ⟨rfl, g7⟩))
  go_ret
  exact ⟨rfl, gr_none (gr_none (gr_none G1.out G5.out) g6) g7⟩
end Go.Proofs.YtikgobndekgjcaaDoor
