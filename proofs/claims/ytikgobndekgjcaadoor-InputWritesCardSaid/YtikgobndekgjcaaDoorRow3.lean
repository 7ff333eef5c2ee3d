/-
  the reference's Row.
-/
import Derived.Test.YtikgobndekgjcaaDoorRow2
namespace Go.Proofs.YtikgobndekgjcaaDoor
open Go.RowKit
set_option maxRecDepth 100000
set_option maxHeartbeats 400000

/-- an edge, an error's number and a place. -/
def ResR3 (r : Ed × Flt) (e : Ending) : Prop := e = .returned (.tuple #[r.1.v, .int .i64 (r.2.e : Nat), .int .i64 (r.2.p : Nat)])
theorem rowE_t {b : List UInt8} (h : b.length = 16) : (rowE b).t.toNat = rdN ((b.drop 0).take 4) := by
  unfold rowE; rw [edOf_t, List.take_append_of_le_length (by omega)]; rfl
theorem rowE_h {b : List UInt8} (h : b.length = 16) : (rowE b).h.toNat = rdN ((b.drop 4).take 4) := by
  unfold rowE; rw [edOf_h, List.drop_append_of_le_length (by omega), List.take_append_of_le_length (by simp; omega)]
theorem rowE_w {b : List UInt8} (h : b.length = 16) : (rowE b).w.toNat = rdN ((b.drop 8).take 8) := by
  unfold rowE; rw [edOf_w, List.drop_append_of_le_length (by omega), List.take_append_of_le_length (by simp; omega)]
theorem rowE_m {b : List UInt8} (h : b.length = 16) : (rowE b).m = 4294967295 := by
  apply UInt32.toNat_inj.1
  unfold rowE
  rw [edOf_m, ← h, List.drop_left]
  rfl

set_option maxHeartbeats 2000000 in
theorem rrow_any (v : Value) (b : List UInt8) (n : UInt32) (w : World) (h : RdB w v b) (hl : b.length ≤ 1000000000) :
    Calls Tryd.prog 28 #[v, .int .u32 n.toNat] w fun e w' => ResR3 (rowM b n 0) e ∧ w.grownBy w' none := by
  obtain ⟨A, c, rfl⟩ := h.form
  have R0 := Lib.hid h
  clear h
  have hn := n.toNat_lt
  by_cases h1 : b.length < 16
  · rw [row_short h1]
    go_enter Tryd.func28, Tryd.ntmps28
    go_wp2
    exact bodyPost_ret (v := .tuple #[zEd.v, .int .i64 (8 : Nat), .int .i64 (0 + b.length : Nat)]) (by simp [results, Tryd.results28, go_sem, Ed.v, Ed.cells, u32v, u64v, zEd]) rfl ⟨rfl, by repeat (first | exact gr_refl _ _ | refine gr_set_new ?_ _ _ (Nat.le_refl _) | refine gr_none ?_ (gr_alloc _ _ _))⟩
  by_cases h2 : 16 < b.length
  · rw [row_long h2]
    go_enter Tryd.func28, Tryd.ntmps28
    go_wp2
    exact bodyPost_ret (v := .tuple #[zEd.v, .int .i64 (1 : Nat), .int .i64 (0 : Nat)]) (by simp [results, Tryd.results28, go_sem, Ed.v, Ed.cells, u32v, u64v, zEd]) rfl ⟨rfl, by repeat (first | exact gr_refl _ _ | refine gr_set_new ?_ _ _ (Nat.le_refl _) | refine gr_none ?_ (gr_alloc _ _ _))⟩
  have h16 : b.length = 16 := by omega
  have n1 : ∀ wx, w.grownBy wx none → Calls Tryd.prog 43 #[.slice A b.length c, .int .i64 0, .int .i64 4] wx fun e w' => e = .returned (.int .u64 ((rowE b).t.toNat : Nat)) ∧ wx = w' := fun wx hx => by
    rw [rowE_t h16]; exact rnumber_any 0 4 0 4 rfl rfl _ b wx (by omega) (by omega) hl (R0.out.ext hx)
  have n2 : ∀ wx, w.grownBy wx none → Calls Tryd.prog 43 #[.slice A b.length c, .int .i64 4, .int .i64 4] wx fun e w' => e = .returned (.int .u64 ((rowE b).h.toNat : Nat)) ∧ wx = w' := fun wx hx => by
    rw [rowE_h h16]; exact rnumber_any 4 4 4 4 rfl rfl _ b wx (by omega) (by omega) hl (R0.out.ext hx)
  have n3 : ∀ wx, w.grownBy wx none → Calls Tryd.prog 43 #[.slice A b.length c, .int .i64 8, .int .i64 8] wx fun e w' => e = .returned (.int .u64 ((rowE b).w.toNat : Nat)) ∧ wx = w' := fun wx hx => by
    rw [rowE_w h16]; exact rnumber_any 8 8 8 8 rfl rfl _ b wx (by omega) (by omega) hl (R0.out.ext hx)
  obtain ⟨x, hx⟩ : ∃ x, x = rowE b := ⟨_, rfl⟩
  have ht := @row_t b n 0 h16
  have hh := @row_h b n 0 h16
  have hw := @row_w b n 0 h16
  have hk := @row_ok b n 0 h16
  have hm := rowE_m h16
  rw [← hx] at ht hh hw hk hm
  simp only [← hx] at n1 n2 n3
  have hge : 16 ≤ b.length := by omega
  have hle : b.length ≤ 16 := by omega
  obtain ⟨xt, xh, xw, xm⟩ := x
  obtain rfl : xm = 4294967295 := hm
  have H1 := Lib.hid n1
  have H2 := Lib.hid n2
  have H3 := Lib.hid n3
  clear hx h16 h1 h2 n1 n2 n3
  have b1 := xt.toNat_lt
  have b2 := xh.toNat_lt
  have b3 := xw.toNat_lt
  have hf := rfits_any n xw
  by_cases c1 : n.toNat ≤ xt.toNat
  · rw [ht c1]
    clear ht hh hw hk hf
    go_enter Tryd.func28, Tryd.ntmps28
    go_wp2_with (first | (go_at_call 43; with_reducible refine (H1.out _ (by repeat (first | exact gr_refl _ _ | exact gr_alloc _ _ _ | refine gr_none ?_ (gr_alloc _ _ _)))).mono ?_; rintro e w2 ⟨rfl, rfl⟩) | (go_at_call 43; with_reducible refine (H2.out _ (by repeat (first | exact gr_refl _ _ | exact gr_alloc _ _ _ | refine gr_none ?_ (gr_alloc _ _ _)))).mono ?_; rintro e w2 ⟨rfl, rfl⟩) | (go_at_call 43; with_reducible refine (H3.out _ (by repeat (first | exact gr_refl _ _ | exact gr_alloc _ _ _ | refine gr_none ?_ (gr_alloc _ _ _)))).mono ?_; rintro e w2 ⟨rfl, rfl⟩))
    exact bodyPost_ret (v := .tuple #[zEd.v, .int .i64 (13 : Nat), .int .i64 (0 : Nat)]) (by simp [results, Tryd.results28, go_sem, Ed.v, Ed.cells, u32v, u64v, zEd]) rfl ⟨rfl, by repeat (first | exact gr_refl _ _ | refine gr_set_new ?_ _ _ (Nat.le_refl _) | refine gr_none ?_ (gr_alloc _ _ _))⟩
  have c1' : decide (xt.toNat < n.toNat) = true := by simp; omega
  by_cases c2 : n.toNat ≤ xh.toNat
  · rw [hh c1 c2]
    clear ht hh hw hk hf
    go_enter Tryd.func28, Tryd.ntmps28
    go_wp2_with (first | (go_at_call 43; with_reducible refine (H1.out _ (by repeat (first | exact gr_refl _ _ | exact gr_alloc _ _ _ | refine gr_none ?_ (gr_alloc _ _ _)))).mono ?_; rintro e w2 ⟨rfl, rfl⟩) | (go_at_call 43; with_reducible refine (H2.out _ (by repeat (first | exact gr_refl _ _ | exact gr_alloc _ _ _ | refine gr_none ?_ (gr_alloc _ _ _)))).mono ?_; rintro e w2 ⟨rfl, rfl⟩) | (go_at_call 43; with_reducible refine (H3.out _ (by repeat (first | exact gr_refl _ _ | exact gr_alloc _ _ _ | refine gr_none ?_ (gr_alloc _ _ _)))).mono ?_; rintro e w2 ⟨rfl, rfl⟩))
    exact bodyPost_ret (v := .tuple #[zEd.v, .int .i64 (13 : Nat), .int .i64 (4 : Nat)]) (by simp [results, Tryd.results28, go_sem, Ed.v, Ed.cells, u32v, u64v, zEd]) rfl ⟨rfl, by repeat (first | exact gr_refl _ _ | refine gr_set_new ?_ _ _ (Nat.le_refl _) | refine gr_none ?_ (gr_alloc _ _ _))⟩
  by_cases c3 : fits n xw = false
  · rw [hw c1 c2 c3]
    rw [c3] at hf
    clear ht hh hw hk
    have Hf := Lib.hid hf
    clear hf
    go_enter Tryd.func28, Tryd.ntmps28
    go_wp2_with (first | (go_at_call 43; with_reducible refine (H1.out _ (by repeat (first | exact gr_refl _ _ | exact gr_alloc _ _ _ | refine gr_none ?_ (gr_alloc _ _ _)))).mono ?_; rintro e w2 ⟨rfl, rfl⟩) | (go_at_call 43; with_reducible refine (H2.out _ (by repeat (first | exact gr_refl _ _ | exact gr_alloc _ _ _ | refine gr_none ?_ (gr_alloc _ _ _)))).mono ?_; rintro e w2 ⟨rfl, rfl⟩) | (go_at_call 43; with_reducible refine (H3.out _ (by repeat (first | exact gr_refl _ _ | exact gr_alloc _ _ _ | refine gr_none ?_ (gr_alloc _ _ _)))).mono ?_; rintro e w2 ⟨rfl, rfl⟩) | (go_at_call 44; refine (Hf.out _).mono ?_; rintro e w3 ⟨rfl, rfl⟩))
    exact bodyPost_ret (v := .tuple #[zEd.v, .int .i64 (11 : Nat), .int .i64 (8 : Nat)]) (by simp [results, Tryd.results28, go_sem, Ed.v, Ed.cells, u32v, u64v, zEd]) rfl ⟨rfl, by repeat (first | exact gr_refl _ _ | refine gr_set_new ?_ _ _ (Nat.le_refl _) | refine gr_none ?_ (gr_alloc _ _ _))⟩
  · have c4 : fits n xw = true := by simpa using c3
    rw [hk c1 c2 c4]
    rw [c4] at hf
    clear ht hh hw hk c3
    have Hf := Lib.hid hf
    clear hf
    go_enter Tryd.func28, Tryd.ntmps28
    go_wp2_with (first | (go_at_call 43; with_reducible refine (H1.out _ (by repeat (first | exact gr_refl _ _ | exact gr_alloc _ _ _ | refine gr_none ?_ (gr_alloc _ _ _)))).mono ?_; rintro e w2 ⟨rfl, rfl⟩) | (go_at_call 43; with_reducible refine (H2.out _ (by repeat (first | exact gr_refl _ _ | exact gr_alloc _ _ _ | refine gr_none ?_ (gr_alloc _ _ _)))).mono ?_; rintro e w2 ⟨rfl, rfl⟩) | (go_at_call 43; with_reducible refine (H3.out _ (by repeat (first | exact gr_refl _ _ | exact gr_alloc _ _ _ | refine gr_none ?_ (gr_alloc _ _ _)))).mono ?_; rintro e w2 ⟨rfl, rfl⟩) | (go_at_call 44; refine (Hf.out _).mono ?_; rintro e w3 ⟨rfl, rfl⟩))
    exact bodyPost_ret (v := .tuple #[(Ed.mk xt xh xw 4294967295).v, .int .i64 (0 : Nat), .int .i64 (0 : Nat)]) (by simp [results, Tryd.results28, go_sem, Ed.v, Ed.cells, u32v, u64v]) rfl ⟨rfl, by repeat (first | exact gr_refl _ _ | refine gr_set_new ?_ _ _ (Nat.le_refl _) | refine gr_none ?_ (gr_alloc _ _ _))⟩
end Go.Proofs.YtikgobndekgjcaaDoor
