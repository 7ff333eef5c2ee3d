/-
  does, with no disk.
-/
import Derived.Test.YtfbbbbekialpnaaOp
import Derived.Test.YtfbbbbekialpnaaNil
namespace Go.Proofs.Ytfbbbbekialpnaa
open Go.RowKit
set_option maxRecDepth 100000
set_option maxHeartbeats 400000

def toldZ : Array Value := #[.slice none 0 0, .int .i64 0, .int .i64 0]
def OpV.agg (o : OpV) : Value := .agg o.cells.toArray
def DoesNil (w : World) (r : Int) (e : Ending) (w' : World) : Prop := ∃ v, e = .returned (.tuple #[.agg #[v, .int .i64 0, .int .i64 r], .bool true]) ∧ OwnB w' w.heap.size v [] ∧ w.grownBy w' none
/-- the variables of does: what is done, what is answered, what is told. -/
theorem does3 (w : World) (cs : Array Value) {W : World} (hW : W = ((w.alloc (.cells cs 79)).alloc (.cells #[.slice none 0 0, .int .i64 0, .int .i64 0] 84)).alloc (.cells #[.slice none 0 0, .int .i64 0, .int .i64 0] 84)) :
    Blk W w.heap.size 79 cs ∧ Blk W (w.heap.size + 1) 84 #[.slice none 0 0, .int .i64 0, .int .i64 0] ∧ Blk W (w.heap.size + 2) 84 #[.slice none 0 0, .int .i64 0, .int .i64 0] ∧ w.grownBy W none := by
  subst hW
  have h1 := Blk.new w 79 cs
  have h2 := Blk.new (w.alloc (.cells cs 79)) 84 #[.slice none 0 0, .int .i64 0, .int .i64 0]
  have h3 := Blk.new ((w.alloc (.cells cs 79)).alloc (.cells #[.slice none 0 0, .int .i64 0, .int .i64 0] 84)) 84 #[.slice none 0 0, .int .i64 0, .int .i64 0]
  rw [World.size_alloc] at h2
  rw [World.size_alloc, World.size_alloc] at h3
  exact ⟨(h1.ext (gr_alloc _ _ none)).ext (gr_alloc _ _ none), h2.ext (gr_alloc _ _ none), h3, gr_none (gr_none (gr_alloc _ _ none) (gr_alloc _ _ none)) (gr_alloc _ _ none)⟩
theorem told_fin {w w2 : World} {cs : Array Value} (hcs : cs.size = 3) (b4 : Blk w2 (w.heap.size + 1) 84 cs) (g : w.grownBy w2 none) (v n e : Value) {WF : World}
    (hWF : WF = ((w2.setCell ⟨w.heap.size + 1, 0, none⟩ v).setCell ⟨w.heap.size + 1, 1, none⟩ n).setCell ⟨w.heap.size + 1, 2, none⟩ e) :
    (∀ i, WF.cell? ⟨w.heap.size + 1, i, none⟩ = #[v, n, e][i]?) ∧ w2.grownBy WF (some (w.heap.size + 1)) ∧ w.grownBy WF none := by
  subst hWF
  have hb := ((b4.set 0 v).set 1 n).set 2 e
  have hg := gr_trans (gr_trans (gr_setCell w2 ⟨w.heap.size + 1, 0, none⟩ v) (gr_setCell _ ⟨w.heap.size + 1, 1, none⟩ n) (.inl rfl)) (gr_setCell _ ⟨w.heap.size + 1, 2, none⟩ e) (.inl rfl)
  refine ⟨fun i => ?_, hg, gr_trans g hg (.inr fun k e => by cases e; exact Nat.le_succ _)⟩
  have := hb.cell i
  rw [this]
  obtain ⟨l⟩ := cs
  match l, hcs with
  | [a, b, c], _ => rfl
theorem does_nil_create (w : World) (name into : List UInt8) (off n : Int) (bv kv : Value) (mask : UInt8) :
    Calls Try.prog 51 #[.pointer none, .agg #[.int .i64 0, .string ⟨name.toArray⟩, .string ⟨into.toArray⟩, .int .i64 off, .int .i64 n, bv, .int .u8 mask.toNat, kv]] w (DoesNil w 2) := by
  go_enter Try.func51, Try.ntmps51
  go_wp2_with fail
  obtain ⟨W, hW⟩ : ∃ W, W = ((w.alloc (.cells #[.int .i64 0, .string ⟨name.toArray⟩, .string ⟨into.toArray⟩, .int .i64 off, .int .i64 n, bv, .int .u8 mask.toNat, kv] 79)).alloc (.cells #[.slice none 0 0, .int .i64 0, .int .i64 0] 84)).alloc (.cells #[.slice none 0 0, .int .i64 0, .int .i64 0] 84) := ⟨_, rfl⟩
  rw [← hW]
  obtain ⟨b3, b4, b6, gW⟩ := does3 w _ hW
  clear hW
  refine (create_dnil _ _).mono ?_
  rintro e w1 ⟨rfl, g1⟩
  have hb4 := b4.ext g1
  have hb6 := b6.ext g1
  have hc4 := hb4.cell
  have hf4 := hb4.frozen
  have hc6 := hb6.cell
  have hf6 := hb6.frozen
  have HB4 := Lib.hid hb4
  have HG := Lib.hid (gr_none gW g1)
  clear b3 b4 b6 gW g1 hb4 hb6
  go_wp2
  obtain ⟨W2, hW2⟩ : ∃ W2, W2 = (w1.setCell ⟨w.heap.size + 1 + 1, 2, none⟩ (.int .i64 2)) := ⟨_, rfl⟩
  rw [← hW2]
  have hb2 : Blk W2 (w.heap.size + 1) 84 #[.slice none 0 0, .int .i64 0, .int .i64 0] := by rw [hW2]; exact HB4.out.far (by simp) _
  have hg2 : w.grownBy W2 none := by rw [hW2]; exact gr_set_new (HG.out) _ _ (by show w.heap.size ≤ w.heap.size + 1 + 1; omega)
  obtain ⟨WF, hWF⟩ : ∃ WF, WF = ((W2.setCell ⟨w.heap.size + 1, 0, none⟩ (.slice none 0 0)).setCell ⟨w.heap.size + 1, 1, none⟩ (.int .i64 0)).setCell ⟨w.heap.size + 1, 2, none⟩ (.int .i64 2) := ⟨_, rfl⟩
  rw [← hWF]
  obtain ⟨hcf, -, hgf⟩ := told_fin (by rfl) hb2 hg2 _ _ _ hWF
  have HGF := Lib.hid hgf
  clear hWF hW2 hb2 hg2 hc4 hf4 hc6 hf6 hgf
  exact bodyPost_ret (v := .tuple #[.agg #[.slice none 0 0, .int .i64 0, .int .i64 2], .bool true]) (by simp [results, Try.results51, go_sem, hcf]) rfl ⟨_, rfl, OwnB.nil _ _, HGF.out⟩
theorem does_nil_remove (w : World) (name into : List UInt8) (off n : Int) (bv kv : Value) (mask : UInt8) :
    Calls Try.prog 51 #[.pointer none, .agg #[.int .i64 1, .string ⟨name.toArray⟩, .string ⟨into.toArray⟩, .int .i64 off, .int .i64 n, bv, .int .u8 mask.toNat, kv]] w (DoesNil w 2) := by
  go_enter Try.func51, Try.ntmps51
  go_wp2_with fail
  obtain ⟨W, hW⟩ : ∃ W, W = ((w.alloc (.cells #[.int .i64 1, .string ⟨name.toArray⟩, .string ⟨into.toArray⟩, .int .i64 off, .int .i64 n, bv, .int .u8 mask.toNat, kv] 79)).alloc (.cells #[.slice none 0 0, .int .i64 0, .int .i64 0] 84)).alloc (.cells #[.slice none 0 0, .int .i64 0, .int .i64 0] 84) := ⟨_, rfl⟩
  rw [← hW]
  obtain ⟨b3, b4, b6, gW⟩ := does3 w _ hW
  clear hW
  refine (remove_dnil _ _).mono ?_
  rintro e w1 ⟨rfl, g1⟩
  have hb4 := b4.ext g1
  have hb6 := b6.ext g1
  have hc4 := hb4.cell
  have hf4 := hb4.frozen
  have hc6 := hb6.cell
  have hf6 := hb6.frozen
  have HB4 := Lib.hid hb4
  have HG := Lib.hid (gr_none gW g1)
  clear b3 b4 b6 gW g1 hb4 hb6
  go_wp2
  obtain ⟨W2, hW2⟩ : ∃ W2, W2 = (w1.setCell ⟨w.heap.size + 1 + 1, 2, none⟩ (.int .i64 2)) := ⟨_, rfl⟩
  rw [← hW2]
  have hb2 : Blk W2 (w.heap.size + 1) 84 #[.slice none 0 0, .int .i64 0, .int .i64 0] := by rw [hW2]; exact HB4.out.far (by simp) _
  have hg2 : w.grownBy W2 none := by rw [hW2]; exact gr_set_new (HG.out) _ _ (by show w.heap.size ≤ w.heap.size + 1 + 1; omega)
  obtain ⟨WF, hWF⟩ : ∃ WF, WF = ((W2.setCell ⟨w.heap.size + 1, 0, none⟩ (.slice none 0 0)).setCell ⟨w.heap.size + 1, 1, none⟩ (.int .i64 0)).setCell ⟨w.heap.size + 1, 2, none⟩ (.int .i64 2) := ⟨_, rfl⟩
  rw [← hWF]
  obtain ⟨hcf, -, hgf⟩ := told_fin (by rfl) hb2 hg2 _ _ _ hWF
  have HGF := Lib.hid hgf
  clear hWF hW2 hb2 hg2 hc4 hf4 hc6 hf6 hgf
  exact bodyPost_ret (v := .tuple #[.agg #[.slice none 0 0, .int .i64 0, .int .i64 2], .bool true]) (by simp [results, Try.results51, go_sem, hcf]) rfl ⟨_, rfl, OwnB.nil _ _, HGF.out⟩
theorem does_nil_rename (w : World) (name into : List UInt8) (off n : Int) (bv kv : Value) (mask : UInt8) :
    Calls Try.prog 51 #[.pointer none, .agg #[.int .i64 2, .string ⟨name.toArray⟩, .string ⟨into.toArray⟩, .int .i64 off, .int .i64 n, bv, .int .u8 mask.toNat, kv]] w (DoesNil w 2) := by
  go_enter Try.func51, Try.ntmps51
  go_wp2_with fail
  obtain ⟨W, hW⟩ : ∃ W, W = ((w.alloc (.cells #[.int .i64 2, .string ⟨name.toArray⟩, .string ⟨into.toArray⟩, .int .i64 off, .int .i64 n, bv, .int .u8 mask.toNat, kv] 79)).alloc (.cells #[.slice none 0 0, .int .i64 0, .int .i64 0] 84)).alloc (.cells #[.slice none 0 0, .int .i64 0, .int .i64 0] 84) := ⟨_, rfl⟩
  rw [← hW]
  obtain ⟨b3, b4, b6, gW⟩ := does3 w _ hW
  clear hW
  refine (rename_dnil _ _ _).mono ?_
  rintro e w1 ⟨rfl, g1⟩
  have hb4 := b4.ext g1
  have hb6 := b6.ext g1
  have hc4 := hb4.cell
  have hf4 := hb4.frozen
  have hc6 := hb6.cell
  have hf6 := hb6.frozen
  have HB4 := Lib.hid hb4
  have HG := Lib.hid (gr_none gW g1)
  clear b3 b4 b6 gW g1 hb4 hb6
  go_wp2
  obtain ⟨W2, hW2⟩ : ∃ W2, W2 = (w1.setCell ⟨w.heap.size + 1 + 1, 2, none⟩ (.int .i64 2)) := ⟨_, rfl⟩
  rw [← hW2]
  have hb2 : Blk W2 (w.heap.size + 1) 84 #[.slice none 0 0, .int .i64 0, .int .i64 0] := by rw [hW2]; exact HB4.out.far (by simp) _
  have hg2 : w.grownBy W2 none := by rw [hW2]; exact gr_set_new (HG.out) _ _ (by show w.heap.size ≤ w.heap.size + 1 + 1; omega)
  obtain ⟨WF, hWF⟩ : ∃ WF, WF = ((W2.setCell ⟨w.heap.size + 1, 0, none⟩ (.slice none 0 0)).setCell ⟨w.heap.size + 1, 1, none⟩ (.int .i64 0)).setCell ⟨w.heap.size + 1, 2, none⟩ (.int .i64 2) := ⟨_, rfl⟩
  rw [← hWF]
  obtain ⟨hcf, -, hgf⟩ := told_fin (by rfl) hb2 hg2 _ _ _ hWF
  have HGF := Lib.hid hgf
  clear hWF hW2 hb2 hg2 hc4 hf4 hc6 hf6 hgf
  exact bodyPost_ret (v := .tuple #[.agg #[.slice none 0 0, .int .i64 0, .int .i64 2], .bool true]) (by simp [results, Try.results51, go_sem, hcf]) rfl ⟨_, rfl, OwnB.nil _ _, HGF.out⟩
theorem does_nil_cut (w : World) (name into : List UInt8) (off n : Int) (bv kv : Value) (mask : UInt8) :
    Calls Try.prog 51 #[.pointer none, .agg #[.int .i64 4, .string ⟨name.toArray⟩, .string ⟨into.toArray⟩, .int .i64 off, .int .i64 n, bv, .int .u8 mask.toNat, kv]] w (DoesNil w 2) := by
  go_enter Try.func51, Try.ntmps51
  go_wp2_with fail
  obtain ⟨W, hW⟩ : ∃ W, W = ((w.alloc (.cells #[.int .i64 4, .string ⟨name.toArray⟩, .string ⟨into.toArray⟩, .int .i64 off, .int .i64 n, bv, .int .u8 mask.toNat, kv] 79)).alloc (.cells #[.slice none 0 0, .int .i64 0, .int .i64 0] 84)).alloc (.cells #[.slice none 0 0, .int .i64 0, .int .i64 0] 84) := ⟨_, rfl⟩
  rw [← hW]
  obtain ⟨b3, b4, b6, gW⟩ := does3 w _ hW
  clear hW
  refine (cut_dnil _ _ _).mono ?_
  rintro e w1 ⟨rfl, g1⟩
  have hb4 := b4.ext g1
  have hb6 := b6.ext g1
  have hc4 := hb4.cell
  have hf4 := hb4.frozen
  have hc6 := hb6.cell
  have hf6 := hb6.frozen
  have HB4 := Lib.hid hb4
  have HG := Lib.hid (gr_none gW g1)
  clear b3 b4 b6 gW g1 hb4 hb6
  go_wp2
  obtain ⟨W2, hW2⟩ : ∃ W2, W2 = (w1.setCell ⟨w.heap.size + 1 + 1, 2, none⟩ (.int .i64 2)) := ⟨_, rfl⟩
  rw [← hW2]
  have hb2 : Blk W2 (w.heap.size + 1) 84 #[.slice none 0 0, .int .i64 0, .int .i64 0] := by rw [hW2]; exact HB4.out.far (by simp) _
  have hg2 : w.grownBy W2 none := by rw [hW2]; exact gr_set_new (HG.out) _ _ (by show w.heap.size ≤ w.heap.size + 1 + 1; omega)
  obtain ⟨WF, hWF⟩ : ∃ WF, WF = ((W2.setCell ⟨w.heap.size + 1, 0, none⟩ (.slice none 0 0)).setCell ⟨w.heap.size + 1, 1, none⟩ (.int .i64 0)).setCell ⟨w.heap.size + 1, 2, none⟩ (.int .i64 2) := ⟨_, rfl⟩
  rw [← hWF]
  obtain ⟨hcf, -, hgf⟩ := told_fin (by rfl) hb2 hg2 _ _ _ hWF
  have HGF := Lib.hid hgf
  clear hWF hW2 hb2 hg2 hc4 hf4 hc6 hf6 hgf
  exact bodyPost_ret (v := .tuple #[.agg #[.slice none 0 0, .int .i64 0, .int .i64 2], .bool true]) (by simp [results, Try.results51, go_sem, hcf]) rfl ⟨_, rfl, OwnB.nil _ _, HGF.out⟩
theorem does_nil_sync (w : World) (name into : List UInt8) (off n : Int) (bv kv : Value) (mask : UInt8) :
    Calls Try.prog 51 #[.pointer none, .agg #[.int .i64 5, .string ⟨name.toArray⟩, .string ⟨into.toArray⟩, .int .i64 off, .int .i64 n, bv, .int .u8 mask.toNat, kv]] w (DoesNil w 2) := by
  go_enter Try.func51, Try.ntmps51
  go_wp2_with fail
  obtain ⟨W, hW⟩ : ∃ W, W = ((w.alloc (.cells #[.int .i64 5, .string ⟨name.toArray⟩, .string ⟨into.toArray⟩, .int .i64 off, .int .i64 n, bv, .int .u8 mask.toNat, kv] 79)).alloc (.cells #[.slice none 0 0, .int .i64 0, .int .i64 0] 84)).alloc (.cells #[.slice none 0 0, .int .i64 0, .int .i64 0] 84) := ⟨_, rfl⟩
  rw [← hW]
  obtain ⟨b3, b4, b6, gW⟩ := does3 w _ hW
  clear hW
  refine (sync_dnil _ _).mono ?_
  rintro e w1 ⟨rfl, g1⟩
  have hb4 := b4.ext g1
  have hb6 := b6.ext g1
  have hc4 := hb4.cell
  have hf4 := hb4.frozen
  have hc6 := hb6.cell
  have hf6 := hb6.frozen
  have HB4 := Lib.hid hb4
  have HG := Lib.hid (gr_none gW g1)
  clear b3 b4 b6 gW g1 hb4 hb6
  go_wp2
  obtain ⟨W2, hW2⟩ : ∃ W2, W2 = (w1.setCell ⟨w.heap.size + 1 + 1, 2, none⟩ (.int .i64 2)) := ⟨_, rfl⟩
  rw [← hW2]
  have hb2 : Blk W2 (w.heap.size + 1) 84 #[.slice none 0 0, .int .i64 0, .int .i64 0] := by rw [hW2]; exact HB4.out.far (by simp) _
  have hg2 : w.grownBy W2 none := by rw [hW2]; exact gr_set_new (HG.out) _ _ (by show w.heap.size ≤ w.heap.size + 1 + 1; omega)
  obtain ⟨WF, hWF⟩ : ∃ WF, WF = ((W2.setCell ⟨w.heap.size + 1, 0, none⟩ (.slice none 0 0)).setCell ⟨w.heap.size + 1, 1, none⟩ (.int .i64 0)).setCell ⟨w.heap.size + 1, 2, none⟩ (.int .i64 2) := ⟨_, rfl⟩
  rw [← hWF]
  obtain ⟨hcf, -, hgf⟩ := told_fin (by rfl) hb2 hg2 _ _ _ hWF
  have HGF := Lib.hid hgf
  clear hWF hW2 hb2 hg2 hc4 hf4 hc6 hf6 hgf
  exact bodyPost_ret (v := .tuple #[.agg #[.slice none 0 0, .int .i64 0, .int .i64 2], .bool true]) (by simp [results, Try.results51, go_sem, hcf]) rfl ⟨_, rfl, OwnB.nil _ _, HGF.out⟩
theorem does_nil_size (w : World) (name into : List UInt8) (off n : Int) (bv kv : Value) (mask : UInt8) :
    Calls Try.prog 51 #[.pointer none, .agg #[.int .i64 7, .string ⟨name.toArray⟩, .string ⟨into.toArray⟩, .int .i64 off, .int .i64 n, bv, .int .u8 mask.toNat, kv]] w (DoesNil w 2) := by
  go_enter Try.func51, Try.ntmps51
  go_wp2_with fail
  obtain ⟨W, hW⟩ : ∃ W, W = ((w.alloc (.cells #[.int .i64 7, .string ⟨name.toArray⟩, .string ⟨into.toArray⟩, .int .i64 off, .int .i64 n, bv, .int .u8 mask.toNat, kv] 79)).alloc (.cells #[.slice none 0 0, .int .i64 0, .int .i64 0] 84)).alloc (.cells #[.slice none 0 0, .int .i64 0, .int .i64 0] 84) := ⟨_, rfl⟩
  rw [← hW]
  obtain ⟨b3, b4, b6, gW⟩ := does3 w _ hW
  clear hW
  refine (size_dnil _ _).mono ?_
  rintro e w1 ⟨rfl, g1⟩
  have hb4 := b4.ext g1
  have hb6 := b6.ext g1
  have hc4 := hb4.cell
  have hf4 := hb4.frozen
  have hc6 := hb6.cell
  have hf6 := hb6.frozen
  have HB4 := Lib.hid hb4
  have HG := Lib.hid (gr_none gW g1)
  clear b3 b4 b6 gW g1 hb4 hb6
  go_wp2
  obtain ⟨W2, hW2⟩ : ∃ W2, W2 = ((w1.setCell ⟨w.heap.size + 1 + 1, 1, none⟩ (.int .i64 0)).setCell ⟨w.heap.size + 1 + 1, 2, none⟩ (.int .i64 2)) := ⟨_, rfl⟩
  rw [← hW2]
  have hb2 : Blk W2 (w.heap.size + 1) 84 #[.slice none 0 0, .int .i64 0, .int .i64 0] := by rw [hW2]; exact (HB4.out.far (by simp) _).far (by simp) _
  have hg2 : w.grownBy W2 none := by rw [hW2]; exact gr_set_new (gr_set_new (HG.out) _ _ (by show w.heap.size ≤ w.heap.size + 1 + 1; omega)) _ _ (by show w.heap.size ≤ w.heap.size + 1 + 1; omega)
  obtain ⟨WF, hWF⟩ : ∃ WF, WF = ((W2.setCell ⟨w.heap.size + 1, 0, none⟩ (.slice none 0 0)).setCell ⟨w.heap.size + 1, 1, none⟩ (.int .i64 0)).setCell ⟨w.heap.size + 1, 2, none⟩ (.int .i64 2) := ⟨_, rfl⟩
  rw [← hWF]
  obtain ⟨hcf, -, hgf⟩ := told_fin (by rfl) hb2 hg2 _ _ _ hWF
  have HGF := Lib.hid hgf
  clear hWF hW2 hb2 hg2 hc4 hf4 hc6 hf6 hgf
  exact bodyPost_ret (v := .tuple #[.agg #[.slice none 0 0, .int .i64 0, .int .i64 2], .bool true]) (by simp [results, Try.results51, go_sem, hcf]) rfl ⟨_, rfl, OwnB.nil _ _, HGF.out⟩
theorem does_nil_quota (w : World) (name into : List UInt8) (off n : Int) (bv kv : Value) (mask : UInt8) :
    Calls Try.prog 51 #[.pointer none, .agg #[.int .i64 8, .string ⟨name.toArray⟩, .string ⟨into.toArray⟩, .int .i64 off, .int .i64 n, bv, .int .u8 mask.toNat, kv]] w (DoesNil w 2) := by
  go_enter Try.func51, Try.ntmps51
  go_wp2_with fail
  obtain ⟨W, hW⟩ : ∃ W, W = ((w.alloc (.cells #[.int .i64 8, .string ⟨name.toArray⟩, .string ⟨into.toArray⟩, .int .i64 off, .int .i64 n, bv, .int .u8 mask.toNat, kv] 79)).alloc (.cells #[.slice none 0 0, .int .i64 0, .int .i64 0] 84)).alloc (.cells #[.slice none 0 0, .int .i64 0, .int .i64 0] 84) := ⟨_, rfl⟩
  rw [← hW]
  obtain ⟨b3, b4, b6, gW⟩ := does3 w _ hW
  clear hW
  refine (quota_dnil _ _).mono ?_
  rintro e w1 ⟨rfl, g1⟩
  have hb4 := b4.ext g1
  have hb6 := b6.ext g1
  have hc4 := hb4.cell
  have hf4 := hb4.frozen
  have hc6 := hb6.cell
  have hf6 := hb6.frozen
  have HB4 := Lib.hid hb4
  have HG := Lib.hid (gr_none gW g1)
  clear b3 b4 b6 gW g1 hb4 hb6
  go_wp2
  obtain ⟨W2, hW2⟩ : ∃ W2, W2 = (w1.setCell ⟨w.heap.size + 1 + 1, 2, none⟩ (.int .i64 2)) := ⟨_, rfl⟩
  rw [← hW2]
  have hb2 : Blk W2 (w.heap.size + 1) 84 #[.slice none 0 0, .int .i64 0, .int .i64 0] := by rw [hW2]; exact HB4.out.far (by simp) _
  have hg2 : w.grownBy W2 none := by rw [hW2]; exact gr_set_new (HG.out) _ _ (by show w.heap.size ≤ w.heap.size + 1 + 1; omega)
  obtain ⟨WF, hWF⟩ : ∃ WF, WF = ((W2.setCell ⟨w.heap.size + 1, 0, none⟩ (.slice none 0 0)).setCell ⟨w.heap.size + 1, 1, none⟩ (.int .i64 0)).setCell ⟨w.heap.size + 1, 2, none⟩ (.int .i64 2) := ⟨_, rfl⟩
  rw [← hWF]
  obtain ⟨hcf, -, hgf⟩ := told_fin (by rfl) hb2 hg2 _ _ _ hWF
  have HGF := Lib.hid hgf
  clear hWF hW2 hb2 hg2 hc4 hf4 hc6 hf6 hgf
  exact bodyPost_ret (v := .tuple #[.agg #[.slice none 0 0, .int .i64 0, .int .i64 2], .bool true]) (by simp [results, Try.results51, go_sem, hcf]) rfl ⟨_, rfl, OwnB.nil _ _, HGF.out⟩
theorem does_nil_arm (w : World) (name into : List UInt8) (off n : Int) (bv kv : Value) (mask : UInt8) :
    Calls Try.prog 51 #[.pointer none, .agg #[.int .i64 9, .string ⟨name.toArray⟩, .string ⟨into.toArray⟩, .int .i64 off, .int .i64 n, bv, .int .u8 mask.toNat, kv]] w (DoesNil w 2) := by
  go_enter Try.func51, Try.ntmps51
  go_wp2_with fail
  obtain ⟨W, hW⟩ : ∃ W, W = ((w.alloc (.cells #[.int .i64 9, .string ⟨name.toArray⟩, .string ⟨into.toArray⟩, .int .i64 off, .int .i64 n, bv, .int .u8 mask.toNat, kv] 79)).alloc (.cells #[.slice none 0 0, .int .i64 0, .int .i64 0] 84)).alloc (.cells #[.slice none 0 0, .int .i64 0, .int .i64 0] 84) := ⟨_, rfl⟩
  rw [← hW]
  obtain ⟨b3, b4, b6, gW⟩ := does3 w _ hW
  clear hW
  refine (arm_dnil _ _).mono ?_
  rintro e w1 ⟨rfl, g1⟩
  have hb4 := b4.ext g1
  have hb6 := b6.ext g1
  have hc4 := hb4.cell
  have hf4 := hb4.frozen
  have hc6 := hb6.cell
  have hf6 := hb6.frozen
  have HB4 := Lib.hid hb4
  have HG := Lib.hid (gr_none gW g1)
  clear b3 b4 b6 gW g1 hb4 hb6
  go_wp2
  obtain ⟨W2, hW2⟩ : ∃ W2, W2 = (w1.setCell ⟨w.heap.size + 1 + 1, 2, none⟩ (.int .i64 2)) := ⟨_, rfl⟩
  rw [← hW2]
  have hb2 : Blk W2 (w.heap.size + 1) 84 #[.slice none 0 0, .int .i64 0, .int .i64 0] := by rw [hW2]; exact HB4.out.far (by simp) _
  have hg2 : w.grownBy W2 none := by rw [hW2]; exact gr_set_new (HG.out) _ _ (by show w.heap.size ≤ w.heap.size + 1 + 1; omega)
  obtain ⟨WF, hWF⟩ : ∃ WF, WF = ((W2.setCell ⟨w.heap.size + 1, 0, none⟩ (.slice none 0 0)).setCell ⟨w.heap.size + 1, 1, none⟩ (.int .i64 0)).setCell ⟨w.heap.size + 1, 2, none⟩ (.int .i64 2) := ⟨_, rfl⟩
  rw [← hWF]
  obtain ⟨hcf, -, hgf⟩ := told_fin (by rfl) hb2 hg2 _ _ _ hWF
  have HGF := Lib.hid hgf
  clear hWF hW2 hb2 hg2 hc4 hf4 hc6 hf6 hgf
  exact bodyPost_ret (v := .tuple #[.agg #[.slice none 0 0, .int .i64 0, .int .i64 2], .bool true]) (by simp [results, Try.results51, go_sem, hcf]) rfl ⟨_, rfl, OwnB.nil _ _, HGF.out⟩
theorem does_nil_flip (w : World) (name into : List UInt8) (off n : Int) (bv kv : Value) (mask : UInt8) :
    Calls Try.prog 51 #[.pointer none, .agg #[.int .i64 11, .string ⟨name.toArray⟩, .string ⟨into.toArray⟩, .int .i64 off, .int .i64 n, bv, .int .u8 mask.toNat, kv]] w (DoesNil w 2) := by
  go_enter Try.func51, Try.ntmps51
  go_wp2_with fail
  obtain ⟨W, hW⟩ : ∃ W, W = ((w.alloc (.cells #[.int .i64 11, .string ⟨name.toArray⟩, .string ⟨into.toArray⟩, .int .i64 off, .int .i64 n, bv, .int .u8 mask.toNat, kv] 79)).alloc (.cells #[.slice none 0 0, .int .i64 0, .int .i64 0] 84)).alloc (.cells #[.slice none 0 0, .int .i64 0, .int .i64 0] 84) := ⟨_, rfl⟩
  rw [← hW]
  obtain ⟨b3, b4, b6, gW⟩ := does3 w _ hW
  clear hW
  refine (flip_dnil _ _ _ _).mono ?_
  rintro e w1 ⟨rfl, g1⟩
  have hb4 := b4.ext g1
  have hb6 := b6.ext g1
  have hc4 := hb4.cell
  have hf4 := hb4.frozen
  have hc6 := hb6.cell
  have hf6 := hb6.frozen
  have HB4 := Lib.hid hb4
  have HG := Lib.hid (gr_none gW g1)
  clear b3 b4 b6 gW g1 hb4 hb6
  go_wp2
  obtain ⟨W2, hW2⟩ : ∃ W2, W2 = (w1.setCell ⟨w.heap.size + 1 + 1, 2, none⟩ (.int .i64 2)) := ⟨_, rfl⟩
  rw [← hW2]
  have hb2 : Blk W2 (w.heap.size + 1) 84 #[.slice none 0 0, .int .i64 0, .int .i64 0] := by rw [hW2]; exact HB4.out.far (by simp) _
  have hg2 : w.grownBy W2 none := by rw [hW2]; exact gr_set_new (HG.out) _ _ (by show w.heap.size ≤ w.heap.size + 1 + 1; omega)
  obtain ⟨WF, hWF⟩ : ∃ WF, WF = ((W2.setCell ⟨w.heap.size + 1, 0, none⟩ (.slice none 0 0)).setCell ⟨w.heap.size + 1, 1, none⟩ (.int .i64 0)).setCell ⟨w.heap.size + 1, 2, none⟩ (.int .i64 2) := ⟨_, rfl⟩
  rw [← hWF]
  obtain ⟨hcf, -, hgf⟩ := told_fin (by rfl) hb2 hg2 _ _ _ hWF
  have HGF := Lib.hid hgf
  clear hWF hW2 hb2 hg2 hc4 hf4 hc6 hf6 hgf
  exact bodyPost_ret (v := .tuple #[.agg #[.slice none 0 0, .int .i64 0, .int .i64 2], .bool true]) (by simp [results, Try.results51, go_sem, hcf]) rfl ⟨_, rfl, OwnB.nil _ _, HGF.out⟩
end Go.Proofs.Ytfbbbbekialpnaa
