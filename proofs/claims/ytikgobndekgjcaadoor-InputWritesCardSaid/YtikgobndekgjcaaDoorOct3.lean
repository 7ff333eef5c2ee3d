/-
  octet, the third part: an edge's bytes.
-/
import Derived.Test.YtikgobndekgjcaaDoorOct2
import Derived.Deep.RegionHeld3
namespace Go.Proofs.YtikgobndekgjcaaDoor
open Go.RowKit
set_option maxRecDepth 100000
set_option maxHeartbeats 400000

structure Ed where
  t : UInt32
  h : UInt32
  w : UInt64
  m : UInt32

def u32v (x : UInt32) : Value := .int .u32 x.toNat
def u64v (x : UInt64) : Value := .int .u64 x.toNat
def Ed.cells (e : Ed) : Array Value := #[u32v e.t, u32v e.h, u64v e.w, u32v e.m]
def Ed.v (e : Ed) : Value := .agg e.cells
def Ed.row (e : Ed) : List UInt8 := le e.t.toNat 4 ++ le e.h.toNat 4 ++ le e.w.toNat 8
def Ed.bytes (e : Ed) : List UInt8 := e.row ++ le e.m.toNat 4

theorem edge_any (e : Ed) (w : World) :
    Calls Tryd.prog 36 #[e.v] w fun r w' => ∃ v', r = .returned v' ∧ OwnB w' w.heap.size v' e.bytes ∧ w.grownBy w' none := by
  obtain ⟨t, h, wt, m⟩ := e
  unfold Ed.v Ed.cells u32v u64v
  have ht := t.toNat_lt
  have hh := h.toNat_lt
  have hw := wt.toNat_lt
  have hm := m.toNat_lt
  have hB0 : w.heap.size + 1 ≤ (w.alloc (.cells #[.int .u32 t.toNat, .int .u32 h.toNat, .int .u64 wt.toNat, .int .u32 m.toNat] 34)).heap.size := by simp
  have kk : ∀ wx, Below (w.heap.size + 1) (w.alloc (.cells #[.int .u32 t.toNat, .int .u32 h.toNat, .int .u64 wt.toNat, .int .u32 m.toNat] 34)) wx → wx.cell? ⟨w.heap.size, 0, none⟩ = some (.int .u32 t.toNat) ∧ wx.cell? ⟨w.heap.size, 1, none⟩ = some (.int .u32 h.toNat) ∧ wx.cell? ⟨w.heap.size, 2, none⟩ = some (.int .u64 wt.toNat) ∧ wx.cell? ⟨w.heap.size, 3, none⟩ = some (.int .u32 m.toNat) :=
    fun wx hb => ⟨below_cell hb (by omega) (by simp), below_cell hb (by omega) (by simp), below_cell hb (by omega) (by simp), below_cell hb (by omega) (by simp)⟩
  go_enter Tryd.func36, Tryd.ntmps36
  go_wp2_with fail
  go_region_held3 (fun w' => w'.cell? ⟨w.heap.size, 0, none⟩ = some (.int .u32 t.toNat) ∧ w'.cell? ⟨w.heap.size, 1, none⟩ = some (.int .u32 h.toNat)) (go_keep)
    (first
      | (go_at_call 58; (with_reducible refine (put32b 4 _ 4 t.toNat rfl rfl (.slice none 0 0) _ (w.heap.size + 1) _ _ (Below.refl _ _).drew hB0 ht (OwnB.nil _ _) ?_ ?_).mono ?_); omega; simp; rintro e w1 ⟨v1, rfl, h1, hb1⟩; have kk1 := kk _ hb1)
      | (go_at_call 58; (with_reducible refine (put32b 4 _ 4 h.toNat rfl rfl v1 _ (w.heap.size + 1) _ _ hb1 hB0 hh h1 ?_ ?_).mono ?_); omega; (simp [length_le]); rintro e w2 ⟨v2, rfl, h2, hb2⟩; have kk2 := kk _ hb2))
  go_wp2_with fail
  go_region_held3 (fun w' => w'.cell? ⟨w.heap.size, 2, none⟩ = some (.int .u64 wt.toNat) ∧ w'.cell? ⟨w.heap.size, 3, none⟩ = some (.int .u32 m.toNat)) (go_keep)
    (first
      | (go_at_call 56; (with_reducible refine (put64b 8 _ 8 wt.toNat rfl rfl v2 _ (w.heap.size + 1) _ _ hb2.drew hB0 hw h2.drew ?_ ?_).mono ?_); omega; (simp [length_le]); rintro e w3 ⟨v3, rfl, h3, hb3⟩; have kk3 := kk _ hb3)
      | (go_at_call 58; (with_reducible refine (put32b 4 _ 4 m.toNat rfl rfl v3 _ (w.heap.size + 1) _ _ hb3 hB0 hm h3 ?_ ?_).mono ?_); omega; (simp [length_le]); rintro e w4 ⟨v4, rfl, h4, hb4⟩; have kk4 := kk _ hb4))
  go_wp2
  go_ret
  refine ⟨_, rfl, ?_, gr_from hb4 (gr_alloc _ _ _) (Nat.le_succ _)⟩
  have h5 := h4.mono (Nat.le_succ w.heap.size)
  show OwnB w4 w.heap.size v4 _
  simpa [Ed.bytes, Ed.row] using h5

end Go.Proofs.YtikgobndekgjcaaDoor
