/-
  input.row and its reference: one row of an input.
-/
import Derived.Test.YthckjpcknmmagaaDoorRow
namespace Go.Proofs.YthckjpcknmmagaaDoor
open Go.RowKit
set_option maxRecDepth 100000
set_option maxHeartbeats 400000

def zEd : Ed := ⟨0, 0, 0, 0⟩
theorem zEd_v : zEd.v = .agg #[.int .u32 0, .int .u32 0, .int .u64 0, .int .u32 0] := rfl
/-- what a row of sixteen bytes says. -/
def rowE (b : List UInt8) : Ed := edOf (b ++ [255, 255, 255, 255])
def rowM (b : List UInt8) (n : UInt32) (p : Nat) : Ed × Flt :=
  if b.length < 16 then (zEd, some (8, p + b.length))
  else if 16 < b.length then (zEd, some (1, p))
  else if n.toNat ≤ (rowE b).t.toNat then (zEd, some (13, p))
  else if n.toNat ≤ (rowE b).h.toNat then (zEd, some (13, p + 4))
  else if fits n (rowE b).w = false then (zEd, some (11, p + 8))
  else (rowE b, none)
theorem row_short {b : List UInt8} {n : UInt32} {p : Nat} (h : b.length < 16) : rowM b n p = (zEd, some (8, p + b.length)) := by unfold rowM; rw [if_pos h]
theorem row_long {b : List UInt8} {n : UInt32} {p : Nat} (h : 16 < b.length) : rowM b n p = (zEd, some (1, p)) := by unfold rowM; rw [if_neg (by omega), if_pos h]
theorem row_t {b : List UInt8} {n : UInt32} {p : Nat} (h : b.length = 16) (ht : n.toNat ≤ (rowE b).t.toNat) : rowM b n p = (zEd, some (13, p)) := by
  unfold rowM; rw [if_neg (by omega), if_neg (by omega), if_pos ht]
theorem row_h {b : List UInt8} {n : UInt32} {p : Nat} (h : b.length = 16) (ht : ¬ n.toNat ≤ (rowE b).t.toNat) (hh : n.toNat ≤ (rowE b).h.toNat) : rowM b n p = (zEd, some (13, p + 4)) := by
  unfold rowM; rw [if_neg (by omega), if_neg (by omega), if_neg ht, if_pos hh]
theorem row_w {b : List UInt8} {n : UInt32} {p : Nat} (h : b.length = 16) (ht : ¬ n.toNat ≤ (rowE b).t.toNat) (hh : ¬ n.toNat ≤ (rowE b).h.toNat) (hw : fits n (rowE b).w = false) : rowM b n p = (zEd, some (11, p + 8)) := by
  unfold rowM; rw [if_neg (by omega), if_neg (by omega), if_neg ht, if_neg hh, if_pos hw]
theorem row_ok {b : List UInt8} {n : UInt32} {p : Nat} (h : b.length = 16) (ht : ¬ n.toNat ≤ (rowE b).t.toNat) (hh : ¬ n.toNat ≤ (rowE b).h.toNat) (hw : fits n (rowE b).w = true) : rowM b n p = (rowE b, none) := by
  unfold rowM; rw [if_neg (by omega), if_neg (by omega), if_neg ht, if_neg hh, if_neg (by simp [hw])]
theorem le_none : le 4294967295 4 = [255, 255, 255, 255] := by decide

/-- an edge and an error. -/
def ResR (r : Ed × Flt) (e : Ending) : Prop := e = .returned (.tuple #[r.1.v, errV r.2])

theorem putNone_any (v : Value) (b : List UInt8) (w wx : World) (hx : w.grownBy wx none) (h : RdB w v b) (hl : b.length ≤ 1000000000) :
    Calls Tryd.prog 21 #[v, .int .u64 4294967295, .int .i64 4] wx fun e w' => ∃ v', e = .returned v' ∧ RdB w' v' (b ++ [255, 255, 255, 255]) ∧ w.grownBy w' none :=
  (put_i 4 4294967295 4 4294967295 rfl rfl v b wx (by omega) (by omega) hl (h.ext hx)).mono fun _ _ ⟨v', he, h', g'⟩ => ⟨v', he, by rw [le_none] at h'; exact h'.rd, gr_none hx g'⟩
set_option maxHeartbeats 2000000 in
theorem row_any (v : Value) (b : List UInt8) (n : UInt32) (p : Nat) (w : World) (h : RdB w v b) (hl : b.length ≤ 1000000000) (hp : p ≤ 1000000000000) :
    Calls Tryd.prog 24 #[v, .int .u32 n.toNat, .int .i64 p] w fun e w' => ResR (rowM b n p) e ∧ w.grownBy w' none := by
  obtain ⟨A, c, rfl⟩ := h.form
  have R0 := Lib.hid h
  clear h
  have hn := n.toNat_lt
  by_cases h1 : b.length < 16
  · rw [row_short h1]
    go_enter Tryd.func24, Tryd.ntmps24
    go_wp2
    exact bodyPost_ret (v := .tuple #[zEd.v, errV (some (8, p + b.length))]) (by simp [results, Tryd.results24, go_sem, zEd_v, errV]) rfl ⟨rfl, gr_alloc _ _ _⟩
  by_cases h2 : 16 < b.length
  · rw [row_long h2]
    go_enter Tryd.func24, Tryd.ntmps24
    go_wp2
    exact bodyPost_ret (v := .tuple #[zEd.v, errV (some (1, p))]) (by simp [results, Tryd.results24, go_sem, zEd_v, errV]) rfl ⟨rfl, gr_alloc _ _ _⟩
  have h16 : b.length = 16 := by omega
  have hread := fun wx v' (hv : RdB wx v' (b ++ [255, 255, 255, 255])) => readEdge_any v' _ wx hv (by simp [h16])
  obtain ⟨x, hx⟩ : ∃ x, x = rowE b := ⟨_, rfl⟩
  have ht := @row_t b n p h16
  have hh := @row_h b n p h16
  have hw := @row_w b n p h16
  have hk := @row_ok b n p h16
  unfold rowE at hx ht hh hw hk
  rw [← hx] at ht hh hw hk
  simp only [← hx] at hread
  have Hread := Lib.hid hread
  have hge : 16 ≤ b.length := by omega
  have hle : b.length ≤ 16 := by omega
  clear hread hx h16 h1 h2
  obtain ⟨xt, xh, xw, xm⟩ := x
  have b1 := xt.toNat_lt
  have b2 := xh.toNat_lt
  have b3 := xw.toNat_lt
  by_cases c1 : n.toNat ≤ xt.toNat
  · rw [ht c1]
    clear ht hh hw hk
    go_enter Tryd.func24, Tryd.ntmps24
    go_wp2_with fail
    refine (putNone_any _ b _ _ (gr_refl _ _) (R0.out.ext (gr_alloc _ _ _)) hl).mono ?_
    rintro e w1 ⟨v1, rfl, r1, g1⟩
    go_wp2_with fail
    refine (Hread.out _ _ r1).mono ?_
    rintro e w2 ⟨rfl, g2⟩
    have g3 := gr_none g1 g2
    have K := (Blk.new w 29 #[.int .u32 0, .int .u32 0, .int .u64 0, .int .u32 0]).ext g3
    have kc := K.cell
    have kf := K.frozen
    have kl := K.lt
    have G := Lib.hid (gr_none (gr_alloc w _ none) g3)
    clear g1 g2 g3 K
    unfold Ed.v Ed.cells u32v u64v
    go_wp2
    exact bodyPost_ret (v := .tuple #[zEd.v, errV (some (13, p))]) (by simp [results, Tryd.results24, go_sem, kl, kc, errV, Ed.v, Ed.cells, u32v, u64v, zEd]) rfl ⟨rfl, by repeat (first | exact G.out | refine gr_set_new ?_ _ _ (Nat.le_refl _) | refine gr_none ?_ (gr_alloc _ _ _))⟩
  have c1' : decide (xt.toNat < n.toNat) = true := by simp; omega
  by_cases c2 : n.toNat ≤ xh.toNat
  · rw [hh c1 c2]
    clear ht hh hw hk
    go_enter Tryd.func24, Tryd.ntmps24
    go_wp2_with fail
    refine (putNone_any _ b _ _ (gr_refl _ _) (R0.out.ext (gr_alloc _ _ _)) hl).mono ?_
    rintro e w1 ⟨v1, rfl, r1, g1⟩
    go_wp2_with fail
    refine (Hread.out _ _ r1).mono ?_
    rintro e w2 ⟨rfl, g2⟩
    have g3 := gr_none g1 g2
    have K := (Blk.new w 29 #[.int .u32 0, .int .u32 0, .int .u64 0, .int .u32 0]).ext g3
    have kc := K.cell
    have kf := K.frozen
    have kl := K.lt
    have G := Lib.hid (gr_none (gr_alloc w _ none) g3)
    clear g1 g2 g3 K
    unfold Ed.v Ed.cells u32v u64v
    go_wp2
    exact bodyPost_ret (v := .tuple #[zEd.v, errV (some (13, p + 4))]) (by simp [results, Tryd.results24, go_sem, kl, kc, errV, Ed.v, Ed.cells, u32v, u64v, zEd]) rfl ⟨rfl, by repeat (first | exact G.out | refine gr_set_new ?_ _ _ (Nat.le_refl _) | refine gr_none ?_ (gr_alloc _ _ _))⟩
  have hf := fits_any n xw
  by_cases c3 : fits n xw = false
  · rw [hw c1 c2 c3]
    rw [c3] at hf
    clear ht hh hw hk
    have Hf := Lib.hid hf
    clear hf
    go_enter Tryd.func24, Tryd.ntmps24
    go_wp2_with fail
    refine (putNone_any _ b _ _ (gr_refl _ _) (R0.out.ext (gr_alloc _ _ _)) hl).mono ?_
    rintro e w1 ⟨v1, rfl, r1, g1⟩
    go_wp2_with fail
    refine (Hread.out _ _ r1).mono ?_
    rintro e w2 ⟨rfl, g2⟩
    have g3 := gr_none g1 g2
    have K := (Blk.new w 29 #[.int .u32 0, .int .u32 0, .int .u64 0, .int .u32 0]).ext g3
    have kc := K.cell
    have kf := K.frozen
    have kl := K.lt
    have G := Lib.hid (gr_none (gr_alloc w _ none) g3)
    clear g1 g2 g3 K
    unfold Ed.v Ed.cells u32v u64v
    go_wp2_with (go_at_call 39; refine (Hf.out _).mono ?_; rintro e w3 ⟨rfl, rfl⟩)
    exact bodyPost_ret (v := .tuple #[zEd.v, errV (some (11, p + 8))]) (by simp [results, Tryd.results24, go_sem, kl, kc, errV, Ed.v, Ed.cells, u32v, u64v, zEd]) rfl ⟨rfl, by repeat (first | exact G.out | refine gr_set_new ?_ _ _ (Nat.le_refl _) | refine gr_none ?_ (gr_alloc _ _ _))⟩
  · have c4 : fits n xw = true := by simpa using c3
    rw [hk c1 c2 c4]
    rw [c4] at hf
    clear ht hh hw hk c3
    have Hf := Lib.hid hf
    clear hf
    go_enter Tryd.func24, Tryd.ntmps24
    go_wp2_with fail
    refine (putNone_any _ b _ _ (gr_refl _ _) (R0.out.ext (gr_alloc _ _ _)) hl).mono ?_
    rintro e w1 ⟨v1, rfl, r1, g1⟩
    go_wp2_with fail
    refine (Hread.out _ _ r1).mono ?_
    rintro e w2 ⟨rfl, g2⟩
    have g3 := gr_none g1 g2
    have K := (Blk.new w 29 #[.int .u32 0, .int .u32 0, .int .u64 0, .int .u32 0]).ext g3
    have kc := K.cell
    have kf := K.frozen
    have kl := K.lt
    have G := Lib.hid (gr_none (gr_alloc w _ none) g3)
    clear g1 g2 g3 K
    unfold Ed.v Ed.cells u32v u64v
    go_wp2_with (go_at_call 39; refine (Hf.out _).mono ?_; rintro e w3 ⟨rfl, rfl⟩)
    exact bodyPost_ret (v := .tuple #[(Ed.mk xt xh xw xm).v, errV none]) (by simp [results, Tryd.results24, go_sem, kl, kc, errV, Ed.v, Ed.cells, u32v, u64v]) rfl ⟨rfl, by repeat (first | exact G.out | refine gr_set_new ?_ _ _ (Nat.le_refl _) | refine gr_none ?_ (gr_alloc _ _ _))⟩
end Go.Proofs.YthckjpcknmmagaaDoor
