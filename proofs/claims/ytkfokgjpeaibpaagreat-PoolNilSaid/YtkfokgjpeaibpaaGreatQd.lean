/-
  PoolNil: does, with no pool (printed by wip/tools/gen_qd.py).
-/
import Derived.Test.YtkfokgjpeaibpaaGreatQo
namespace Go.Proofs.YtkfokgjpeaibpaaGreat
open Go.RowKit Go.Maps
set_option maxRecDepth 100000
set_option maxHeartbeats 400000

def DoesNil (w : World) (e : Ending) (w' : World) : Prop := ∃ A n c, e = .returned (.agg #[.slice A n c, .int .i64 0, .int .i64 2]) ∧ w.grownBy w' none
theorem does3 (w : World) (cs : Array Value) {W : World} (hW : W = ((w.alloc (.cells cs 35)).alloc (.cells #[.slice none 0 0, .int .i64 0, .int .i64 0] 38)).alloc (.cells #[.slice none 0 0, .int .i64 0, .int .i64 0] 38)) :
    Blk W w.heap.size 35 cs ∧ Blk W (w.heap.size + 1) 38 #[.slice none 0 0, .int .i64 0, .int .i64 0] ∧ Blk W (w.heap.size + 2) 38 #[.slice none 0 0, .int .i64 0, .int .i64 0] ∧ w.grownBy W none := by
  subst hW
  have h1 := Blk.new w 35 cs
  have h2 := Blk.new (w.alloc (.cells cs 35)) 38 #[.slice none 0 0, .int .i64 0, .int .i64 0]
  have h3 := Blk.new ((w.alloc (.cells cs 35)).alloc (.cells #[.slice none 0 0, .int .i64 0, .int .i64 0] 38)) 38 #[.slice none 0 0, .int .i64 0, .int .i64 0]
  rw [World.size_alloc] at h2
  rw [World.size_alloc, World.size_alloc] at h3
  exact ⟨(h1.ext (gr_alloc _ _ none)).ext (gr_alloc _ _ none), h2.ext (gr_alloc _ _ none), h3, gr_none (gr_none (gr_alloc _ _ none) (gr_alloc _ _ none)) (gr_alloc _ _ none)⟩
theorem told_fin {w w2 : World} {cs : Array Value} (hcs : cs.size = 3) (b4 : Blk w2 (w.heap.size + 1) 38 cs) (g : w.grownBy w2 none) (v n e : Value) {WF : World}
    (hWF : WF = ((w2.setCell ⟨w.heap.size + 1, 0, none⟩ v).setCell ⟨w.heap.size + 1, 1, none⟩ n).setCell ⟨w.heap.size + 1, 2, none⟩ e) :
    (∀ i, WF.cell? ⟨w.heap.size + 1, i, none⟩ = #[v, n, e][i]?) ∧ w.grownBy WF none := by
  subst hWF
  have hb := ((b4.set 0 v).set 1 n).set 2 e
  have hg := gr_trans (gr_trans (gr_setCell w2 ⟨w.heap.size + 1, 0, none⟩ v) (gr_setCell _ ⟨w.heap.size + 1, 1, none⟩ n) (.inl rfl)) (gr_setCell _ ⟨w.heap.size + 1, 2, none⟩ e) (.inl rfl)
  refine ⟨fun i => ?_, gr_trans g hg (.inr fun k e => by cases e; exact Nat.le_succ _)⟩
  have := hb.cell i
  rw [this]
  obtain ⟨l⟩ := cs
  match l, hcs with
  | [a, b, c], _ => rfl
theorem does_nil_create (w : World) (name : List UInt8) (k : Int) (bv : Value) :
    Calls Tryz.prog 13 #[.pointer none, .pointer none, .agg #[.int .i64 0, .string ⟨name.toArray⟩, .int .i64 k, bv]] w (DoesNil w) := by
  go_enter Tryz.func13, Tryz.ntmps13
  go_wp2_with fail
  obtain ⟨W, hW⟩ : ∃ W, W = ((w.alloc (.cells #[.int .i64 0, .string ⟨name.toArray⟩, .int .i64 k, bv] 35)).alloc (.cells #[.slice none 0 0, .int .i64 0, .int .i64 0] 38)).alloc (.cells #[.slice none 0 0, .int .i64 0, .int .i64 0] 38) := ⟨_, rfl⟩
  rw [← hW]
  obtain ⟨b3, b4, b6, gW⟩ := does3 w _ hW
  clear hW
  refine (pcreate_nil _ _).mono ?_
  rintro e w1 ⟨rfl, rfl⟩
  have hc4 := b4.cell
  have hf4 := b4.frozen
  have hc6 := b6.cell
  have hf6 := b6.frozen
  have HB4 := Lib.hid b4
  have HG := Lib.hid gW
  clear b3 b4 b6 gW
  go_wp2
  obtain ⟨W2, hW2⟩ : ∃ W2, W2 = W.setCell ⟨w.heap.size + 1 + 1, 2, none⟩ (.int .i64 2) := ⟨_, rfl⟩
  rw [← hW2]
  have hb2 : Blk W2 (w.heap.size + 1) 38 #[.slice none 0 0, .int .i64 0, .int .i64 0] := by rw [hW2]; exact HB4.out.far (by simp) _
  have hg2 : w.grownBy W2 none := by rw [hW2]; exact gr_set_new (HG.out) _ _ (by show w.heap.size ≤ w.heap.size + 1 + 1; omega)
  obtain ⟨WF, hWF⟩ : ∃ WF, WF = ((W2.setCell ⟨w.heap.size + 1, 0, none⟩ (.slice none 0 0)).setCell ⟨w.heap.size + 1, 1, none⟩ (.int .i64 0)).setCell ⟨w.heap.size + 1, 2, none⟩ (.int .i64 2) := ⟨_, rfl⟩
  rw [← hWF]
  obtain ⟨hcf, hgf⟩ := told_fin (by rfl) hb2 hg2 _ _ _ hWF
  have HGF := Lib.hid hgf
  clear hWF hW2 hb2 hg2 hc4 hf4 hc6 hf6 hgf
  exact bodyPost_ret (v := .agg #[.slice none 0 0, .int .i64 0, .int .i64 2]) (by simp [results, Tryz.results13, go_sem, hcf]) rfl ⟨_, _, _, rfl, HGF.out⟩
theorem does_nil_drop (w : World) (name : List UInt8) (k : Int) (bv : Value) :
    Calls Tryz.prog 13 #[.pointer none, .pointer none, .agg #[.int .i64 1, .string ⟨name.toArray⟩, .int .i64 k, bv]] w (DoesNil w) := by
  go_enter Tryz.func13, Tryz.ntmps13
  go_wp2_with fail
  obtain ⟨W, hW⟩ : ∃ W, W = ((w.alloc (.cells #[.int .i64 1, .string ⟨name.toArray⟩, .int .i64 k, bv] 35)).alloc (.cells #[.slice none 0 0, .int .i64 0, .int .i64 0] 38)).alloc (.cells #[.slice none 0 0, .int .i64 0, .int .i64 0] 38) := ⟨_, rfl⟩
  rw [← hW]
  obtain ⟨b3, b4, b6, gW⟩ := does3 w _ hW
  clear hW
  refine (pdrop_nil _ _).mono ?_
  rintro e w1 ⟨rfl, rfl⟩
  have hc4 := b4.cell
  have hf4 := b4.frozen
  have hc6 := b6.cell
  have hf6 := b6.frozen
  have HB4 := Lib.hid b4
  have HG := Lib.hid gW
  clear b3 b4 b6 gW
  go_wp2
  obtain ⟨W2, hW2⟩ : ∃ W2, W2 = W.setCell ⟨w.heap.size + 1 + 1, 2, none⟩ (.int .i64 2) := ⟨_, rfl⟩
  rw [← hW2]
  have hb2 : Blk W2 (w.heap.size + 1) 38 #[.slice none 0 0, .int .i64 0, .int .i64 0] := by rw [hW2]; exact HB4.out.far (by simp) _
  have hg2 : w.grownBy W2 none := by rw [hW2]; exact gr_set_new (HG.out) _ _ (by show w.heap.size ≤ w.heap.size + 1 + 1; omega)
  obtain ⟨WF, hWF⟩ : ∃ WF, WF = ((W2.setCell ⟨w.heap.size + 1, 0, none⟩ (.slice none 0 0)).setCell ⟨w.heap.size + 1, 1, none⟩ (.int .i64 0)).setCell ⟨w.heap.size + 1, 2, none⟩ (.int .i64 2) := ⟨_, rfl⟩
  rw [← hWF]
  obtain ⟨hcf, hgf⟩ := told_fin (by rfl) hb2 hg2 _ _ _ hWF
  have HGF := Lib.hid hgf
  clear hWF hW2 hb2 hg2 hc4 hf4 hc6 hf6 hgf
  exact bodyPost_ret (v := .agg #[.slice none 0 0, .int .i64 0, .int .i64 2]) (by simp [results, Tryz.results13, go_sem, hcf]) rfl ⟨_, _, _, rfl, HGF.out⟩
theorem does_nil_pages (w : World) (name : List UInt8) (k : Int) (bv : Value) :
    Calls Tryz.prog 13 #[.pointer none, .pointer none, .agg #[.int .i64 2, .string ⟨name.toArray⟩, .int .i64 k, bv]] w (DoesNil w) := by
  go_enter Tryz.func13, Tryz.ntmps13
  go_wp2_with fail
  obtain ⟨W, hW⟩ : ∃ W, W = ((w.alloc (.cells #[.int .i64 2, .string ⟨name.toArray⟩, .int .i64 k, bv] 35)).alloc (.cells #[.slice none 0 0, .int .i64 0, .int .i64 0] 38)).alloc (.cells #[.slice none 0 0, .int .i64 0, .int .i64 0] 38) := ⟨_, rfl⟩
  rw [← hW]
  obtain ⟨b3, b4, b6, gW⟩ := does3 w _ hW
  clear hW
  refine (ppages_nil _ _).mono ?_
  rintro e w1 ⟨rfl, rfl⟩
  have hc4 := b4.cell
  have hf4 := b4.frozen
  have hc6 := b6.cell
  have hf6 := b6.frozen
  have HB4 := Lib.hid b4
  have HG := Lib.hid gW
  clear b3 b4 b6 gW
  go_wp2
  obtain ⟨W2, hW2⟩ : ∃ W2, W2 = (W.setCell ⟨w.heap.size + 1 + 1, 1, none⟩ (.int .i64 0)).setCell ⟨w.heap.size + 1 + 1, 2, none⟩ (.int .i64 2) := ⟨_, rfl⟩
  rw [← hW2]
  have hb2 : Blk W2 (w.heap.size + 1) 38 #[.slice none 0 0, .int .i64 0, .int .i64 0] := by rw [hW2]; exact (HB4.out.far (by simp) _).far (by simp) _
  have hg2 : w.grownBy W2 none := by rw [hW2]; exact gr_set_new (gr_set_new (HG.out) _ _ (by show w.heap.size ≤ w.heap.size + 1 + 1; omega)) _ _ (by show w.heap.size ≤ w.heap.size + 1 + 1; omega)
  obtain ⟨WF, hWF⟩ : ∃ WF, WF = ((W2.setCell ⟨w.heap.size + 1, 0, none⟩ (.slice none 0 0)).setCell ⟨w.heap.size + 1, 1, none⟩ (.int .i64 0)).setCell ⟨w.heap.size + 1, 2, none⟩ (.int .i64 2) := ⟨_, rfl⟩
  rw [← hWF]
  obtain ⟨hcf, hgf⟩ := told_fin (by rfl) hb2 hg2 _ _ _ hWF
  have HGF := Lib.hid hgf
  clear hWF hW2 hb2 hg2 hc4 hf4 hc6 hf6 hgf
  exact bodyPost_ret (v := .agg #[.slice none 0 0, .int .i64 0, .int .i64 2]) (by simp [results, Tryz.results13, go_sem, hcf]) rfl ⟨_, _, _, rfl, HGF.out⟩
theorem does_nil_unpin (w : World) (name : List UInt8) (k : Int) (bv : Value) :
    Calls Tryz.prog 13 #[.pointer none, .pointer none, .agg #[.int .i64 4, .string ⟨name.toArray⟩, .int .i64 k, bv]] w (DoesNil w) := by
  go_enter Tryz.func13, Tryz.ntmps13
  go_wp2_with fail
  obtain ⟨W, hW⟩ : ∃ W, W = ((w.alloc (.cells #[.int .i64 4, .string ⟨name.toArray⟩, .int .i64 k, bv] 35)).alloc (.cells #[.slice none 0 0, .int .i64 0, .int .i64 0] 38)).alloc (.cells #[.slice none 0 0, .int .i64 0, .int .i64 0] 38) := ⟨_, rfl⟩
  rw [← hW]
  obtain ⟨b3, b4, b6, gW⟩ := does3 w _ hW
  clear hW
  refine (punpin_nil _ _ _).mono ?_
  rintro e w1 ⟨rfl, rfl⟩
  have hc4 := b4.cell
  have hf4 := b4.frozen
  have hc6 := b6.cell
  have hf6 := b6.frozen
  have HB4 := Lib.hid b4
  have HG := Lib.hid gW
  clear b3 b4 b6 gW
  go_wp2
  obtain ⟨W2, hW2⟩ : ∃ W2, W2 = W.setCell ⟨w.heap.size + 1 + 1, 2, none⟩ (.int .i64 2) := ⟨_, rfl⟩
  rw [← hW2]
  have hb2 : Blk W2 (w.heap.size + 1) 38 #[.slice none 0 0, .int .i64 0, .int .i64 0] := by rw [hW2]; exact HB4.out.far (by simp) _
  have hg2 : w.grownBy W2 none := by rw [hW2]; exact gr_set_new (HG.out) _ _ (by show w.heap.size ≤ w.heap.size + 1 + 1; omega)
  obtain ⟨WF, hWF⟩ : ∃ WF, WF = ((W2.setCell ⟨w.heap.size + 1, 0, none⟩ (.slice none 0 0)).setCell ⟨w.heap.size + 1, 1, none⟩ (.int .i64 0)).setCell ⟨w.heap.size + 1, 2, none⟩ (.int .i64 2) := ⟨_, rfl⟩
  rw [← hWF]
  obtain ⟨hcf, hgf⟩ := told_fin (by rfl) hb2 hg2 _ _ _ hWF
  have HGF := Lib.hid hgf
  clear hWF hW2 hb2 hg2 hc4 hf4 hc6 hf6 hgf
  exact bodyPost_ret (v := .agg #[.slice none 0 0, .int .i64 0, .int .i64 2]) (by simp [results, Tryz.results13, go_sem, hcf]) rfl ⟨_, _, _, rfl, HGF.out⟩
theorem does_nil_flush (w : World) (name : List UInt8) (k : Int) (bv : Value) :
    Calls Tryz.prog 13 #[.pointer none, .pointer none, .agg #[.int .i64 7, .string ⟨name.toArray⟩, .int .i64 k, bv]] w (DoesNil w) := by
  go_enter Tryz.func13, Tryz.ntmps13
  go_wp2_with fail
  obtain ⟨W, hW⟩ : ∃ W, W = ((w.alloc (.cells #[.int .i64 7, .string ⟨name.toArray⟩, .int .i64 k, bv] 35)).alloc (.cells #[.slice none 0 0, .int .i64 0, .int .i64 0] 38)).alloc (.cells #[.slice none 0 0, .int .i64 0, .int .i64 0] 38) := ⟨_, rfl⟩
  rw [← hW]
  obtain ⟨b3, b4, b6, gW⟩ := does3 w _ hW
  clear hW
  refine (pflush_nil _ _).mono ?_
  rintro e w1 ⟨rfl, rfl⟩
  have hc4 := b4.cell
  have hf4 := b4.frozen
  have hc6 := b6.cell
  have hf6 := b6.frozen
  have HB4 := Lib.hid b4
  have HG := Lib.hid gW
  clear b3 b4 b6 gW
  go_wp2
  obtain ⟨W2, hW2⟩ : ∃ W2, W2 = W.setCell ⟨w.heap.size + 1 + 1, 2, none⟩ (.int .i64 2) := ⟨_, rfl⟩
  rw [← hW2]
  have hb2 : Blk W2 (w.heap.size + 1) 38 #[.slice none 0 0, .int .i64 0, .int .i64 0] := by rw [hW2]; exact HB4.out.far (by simp) _
  have hg2 : w.grownBy W2 none := by rw [hW2]; exact gr_set_new (HG.out) _ _ (by show w.heap.size ≤ w.heap.size + 1 + 1; omega)
  obtain ⟨WF, hWF⟩ : ∃ WF, WF = ((W2.setCell ⟨w.heap.size + 1, 0, none⟩ (.slice none 0 0)).setCell ⟨w.heap.size + 1, 1, none⟩ (.int .i64 0)).setCell ⟨w.heap.size + 1, 2, none⟩ (.int .i64 2) := ⟨_, rfl⟩
  rw [← hWF]
  obtain ⟨hcf, hgf⟩ := told_fin (by rfl) hb2 hg2 _ _ _ hWF
  have HGF := Lib.hid hgf
  clear hWF hW2 hb2 hg2 hc4 hf4 hc6 hf6 hgf
  exact bodyPost_ret (v := .agg #[.slice none 0 0, .int .i64 0, .int .i64 2]) (by simp [results, Tryz.results13, go_sem, hcf]) rfl ⟨_, _, _, rfl, HGF.out⟩
set_option maxHeartbeats 2000000 in
theorem does_nil_pin (w : World) (name : List UInt8) (k : Int) (bv : Value) :
    Calls Tryz.prog 13 #[.pointer none, .pointer none, .agg #[.int .i64 3, .string ⟨name.toArray⟩, .int .i64 k, bv]] w (DoesNil w) := by
  go_enter Tryz.func13, Tryz.ntmps13
  go_wp2_with fail
  obtain ⟨W, hW⟩ : ∃ W, W = ((w.alloc (.cells #[.int .i64 3, .string ⟨name.toArray⟩, .int .i64 k, bv] 35)).alloc (.cells #[.slice none 0 0, .int .i64 0, .int .i64 0] 38)).alloc (.cells #[.slice none 0 0, .int .i64 0, .int .i64 0] 38) := ⟨_, rfl⟩
  rw [← hW]
  obtain ⟨b3, b4, b6, gW⟩ := does3 w _ hW
  clear hW
  refine (ppin_nil _ _ _).mono ?_
  rintro e w1 ⟨rfl, rfl⟩
  have HB4 := Lib.hid b4
  have HB6 := Lib.hid b6
  have HG1 := Lib.hid gW
  have HT := Lib.hid (fun wx => copyBytes_any (.slice none 0 0) [] wx (Rd.nil _ _) (by simp))
  have hc6 := b6.cell
  have hf6 := b6.frozen
  clear b3 b4 b6 gW
  go_wp2_with fail
  obtain ⟨W1, hW1⟩ : ∃ W1, W1 = W.setCell ⟨w.heap.size + 1 + 1, 2, none⟩ (.int .i64 2) := ⟨_, rfl⟩
  rw [← hW1]
  have HC4 : Hid (Blk W1 (w.heap.size + 1) 38 #[.slice none 0 0, .int .i64 0, .int .i64 0]) := by show Blk _ _ _ _; rw [hW1]; exact HB4.out.far (by simp) _
  have HC6 : Hid (Blk W1 (w.heap.size + 2) 38 #[.slice none 0 0, .int .i64 0, .int .i64 2]) := by show Blk _ _ _ _; rw [hW1]; exact HB6.out.set 2 _
  have HGW : Hid (w.grownBy W1 none) := by show World.grownBy _ _ _; rw [hW1]; exact gr_set_new HG1.out _ _ (by show w.heap.size ≤ w.heap.size + 1 + 1; omega)
  clear hW1 hc6 hf6
  refine (HT.out _).mono ?_
  rintro e w2 ⟨v2, rfl, o2, g2⟩
  have hb4 := HC4.out.ext g2
  have hb6 := HC6.out.ext g2
  have hc6 := hb6.cell
  have hf6 := hb6.frozen
  obtain ⟨A2, c2, rfl⟩ := o2.rd.form
  have HBB4 := Lib.hid hb4
  have HBB6 := Lib.hid hb6
  have HG2 := Lib.hid (gr_none HGW.out g2)
  clear hb4 hb6 o2 g2 HT HB4 HB6
  simp only [List.length_nil] at *
  go_wp2_with fail
  go_loopw [9] (fun i wr => i = .int .i64 0 ∧ wr = w2.setCell ⟨w.heap.size + 1 + 1, 0, none⟩ (.slice A2 0 c2)) (fun _ _ => 0)
  case atStart => exact ⟨rfl, rfl⟩
  case round =>
    obtain ⟨rfl, hwr⟩ := hrel
    have hb2 : Blk wr (w.heap.size + 1) 38 #[.slice none 0 0, .int .i64 0, .int .i64 0] := by rw [hwr]; exact HBB4.out.far (by simp) _
    have hg2 : w.grownBy wr none := by rw [hwr]; exact gr_set_new HG2.out _ _ (by show w.heap.size ≤ w.heap.size + 1 + 1; omega)
    have hq4 := hb2.cell
    have hfz4 := hb2.frozen
    have hb7 : Blk wr (w.heap.size + 2) 38 #[.slice A2 0 c2, .int .i64 0, .int .i64 2] := by rw [hwr]; exact HBB6.out.set 0 _
    have h60 : wr.cell? ⟨w.heap.size + 1 + 1, 0, none⟩ = some (.slice A2 0 c2) := hb7.cell 0
    have h61 : wr.cell? ⟨w.heap.size + 1 + 1, 1, none⟩ = some (.int .i64 0) := hb7.cell 1
    have h62 : wr.cell? ⟨w.heap.size + 1 + 1, 2, none⟩ = some (.int .i64 2) := hb7.cell 2
    have HB2 := Lib.hid hb2
    have HG3 := Lib.hid hg2
    clear hwr hb2 hg2 hb7 hc6 hf6
    go_wp2
    obtain ⟨WF, hWF⟩ : ∃ WF, WF = ((wr.setCell ⟨w.heap.size + 1, 0, none⟩ (.slice A2 0 c2)).setCell ⟨w.heap.size + 1, 1, none⟩ (.int .i64 0)).setCell ⟨w.heap.size + 1, 2, none⟩ (.int .i64 2) := ⟨_, rfl⟩
    rw [← hWF]
    obtain ⟨hcf, hgf⟩ := told_fin (by rfl) HB2.out HG3.out _ _ _ hWF
    have HGF := Lib.hid hgf
    clear hWF hq4 hfz4 h60 h61 h62 hgf
    exact bodyPost_ret (v := .agg #[.slice A2 0 c2, .int .i64 0, .int .i64 2]) (by simp [results, Tryz.results13, go_sem, hcf]) rfl ⟨_, _, _, rfl, HGF.out⟩
set_option maxHeartbeats 2000000 in
theorem does_nil_read (w : World) (name : List UInt8) (k : Int) (bv : Value) :
    Calls Tryz.prog 13 #[.pointer none, .pointer none, .agg #[.int .i64 5, .string ⟨name.toArray⟩, .int .i64 k, bv]] w (DoesNil w) := by
  go_enter Tryz.func13, Tryz.ntmps13
  go_wp2_with fail
  obtain ⟨W, hW⟩ : ∃ W, W = ((w.alloc (.cells #[.int .i64 5, .string ⟨name.toArray⟩, .int .i64 k, bv] 35)).alloc (.cells #[.slice none 0 0, .int .i64 0, .int .i64 0] 38)).alloc (.cells #[.slice none 0 0, .int .i64 0, .int .i64 0] 38) := ⟨_, rfl⟩
  rw [← hW]
  obtain ⟨b3, b4, b6, gW⟩ := does3 w _ hW
  clear hW
  refine (pread_nil _ _ _).mono ?_
  rintro e w1 ⟨rfl, rfl⟩
  have HB4 := Lib.hid b4
  have HB6 := Lib.hid b6
  have HG1 := Lib.hid gW
  have HT := Lib.hid (fun wx => copyBytes_any (.slice none 0 0) [] wx (Rd.nil _ _) (by simp))
  have hc6 := b6.cell
  have hf6 := b6.frozen
  clear b3 b4 b6 gW
  go_wp2_with fail
  obtain ⟨W1, hW1⟩ : ∃ W1, W1 = W.setCell ⟨w.heap.size + 1 + 1, 2, none⟩ (.int .i64 2) := ⟨_, rfl⟩
  rw [← hW1]
  have HC4 : Hid (Blk W1 (w.heap.size + 1) 38 #[.slice none 0 0, .int .i64 0, .int .i64 0]) := by show Blk _ _ _ _; rw [hW1]; exact HB4.out.far (by simp) _
  have HC6 : Hid (Blk W1 (w.heap.size + 2) 38 #[.slice none 0 0, .int .i64 0, .int .i64 2]) := by show Blk _ _ _ _; rw [hW1]; exact HB6.out.set 2 _
  have HGW : Hid (w.grownBy W1 none) := by show World.grownBy _ _ _; rw [hW1]; exact gr_set_new HG1.out _ _ (by show w.heap.size ≤ w.heap.size + 1 + 1; omega)
  clear hW1 hc6 hf6
  refine (HT.out _).mono ?_
  rintro e w2 ⟨v2, rfl, o2, g2⟩
  have hb4 := HC4.out.ext g2
  have hb6 := HC6.out.ext g2
  have hc6 := hb6.cell
  have hf6 := hb6.frozen
  obtain ⟨A2, c2, rfl⟩ := o2.rd.form
  have HBB4 := Lib.hid hb4
  have HBB6 := Lib.hid hb6
  have HG2 := Lib.hid (gr_none HGW.out g2)
  clear hb4 hb6 o2 g2 HT HB4 HB6
  simp only [List.length_nil] at *
  go_wp2_with fail
  go_loopw [9] (fun i wr => i = .int .i64 0 ∧ wr = w2.setCell ⟨w.heap.size + 1 + 1, 0, none⟩ (.slice A2 0 c2)) (fun _ _ => 0)
  case atStart => exact ⟨rfl, rfl⟩
  case round =>
    obtain ⟨rfl, hwr⟩ := hrel
    have hb2 : Blk wr (w.heap.size + 1) 38 #[.slice none 0 0, .int .i64 0, .int .i64 0] := by rw [hwr]; exact HBB4.out.far (by simp) _
    have hg2 : w.grownBy wr none := by rw [hwr]; exact gr_set_new HG2.out _ _ (by show w.heap.size ≤ w.heap.size + 1 + 1; omega)
    have hq4 := hb2.cell
    have hfz4 := hb2.frozen
    have hb7 : Blk wr (w.heap.size + 2) 38 #[.slice A2 0 c2, .int .i64 0, .int .i64 2] := by rw [hwr]; exact HBB6.out.set 0 _
    have h60 : wr.cell? ⟨w.heap.size + 1 + 1, 0, none⟩ = some (.slice A2 0 c2) := hb7.cell 0
    have h61 : wr.cell? ⟨w.heap.size + 1 + 1, 1, none⟩ = some (.int .i64 0) := hb7.cell 1
    have h62 : wr.cell? ⟨w.heap.size + 1 + 1, 2, none⟩ = some (.int .i64 2) := hb7.cell 2
    have HB2 := Lib.hid hb2
    have HG3 := Lib.hid hg2
    clear hwr hb2 hg2 hb7 hc6 hf6
    go_wp2
    obtain ⟨WF, hWF⟩ : ∃ WF, WF = ((wr.setCell ⟨w.heap.size + 1, 0, none⟩ (.slice A2 0 c2)).setCell ⟨w.heap.size + 1, 1, none⟩ (.int .i64 0)).setCell ⟨w.heap.size + 1, 2, none⟩ (.int .i64 2) := ⟨_, rfl⟩
    rw [← hWF]
    obtain ⟨hcf, hgf⟩ := told_fin (by rfl) HB2.out HG3.out _ _ _ hWF
    have HGF := Lib.hid hgf
    clear hWF hq4 hfz4 h60 h61 h62 hgf
    exact bodyPost_ret (v := .agg #[.slice A2 0 c2, .int .i64 0, .int .i64 2]) (by simp [results, Tryz.results13, go_sem, hcf]) rfl ⟨_, _, _, rfl, HGF.out⟩
end Go.Proofs.YtkfokgjpeaibpaaGreat
