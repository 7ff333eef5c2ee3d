/-
  an edge out of bytes; an input's rows.
-/
import Derived.Test.YthckjpcknmmagaaDoorAs2
namespace Go.Proofs.YthckjpcknmmagaaDoor
open Go.RowKit
set_option maxRecDepth 100000
set_option maxHeartbeats 400000

def edOf (l : List UInt8) : Ed := ⟨UInt32.ofNat (rdN (l.take 4)), UInt32.ofNat (rdN ((l.drop 4).take 4)), UInt64.ofNat (rdN ((l.drop 8).take 8)), UInt32.ofNat (rdN ((l.drop 16).take 4))⟩
theorem u32_of {n : Nat} (h : n < 2 ^ 32) : (UInt32.ofNat n).toNat = n := by simp; omega
theorem u64_of {n : Nat} (h : n < 2 ^ 64) : (UInt64.ofNat n).toNat = n := by simp; omega
theorem edOf_t (l : List UInt8) : (edOf l).t.toNat = rdN (l.take 4) := u32_of (rdN_take_lt l 4)
theorem edOf_h (l : List UInt8) : (edOf l).h.toNat = rdN ((l.drop 4).take 4) := u32_of (rdN_take_lt _ 4)
theorem edOf_w (l : List UInt8) : (edOf l).w.toNat = rdN ((l.drop 8).take 8) := u64_of (rdN_take_lt _ 8)
theorem edOf_m (l : List UInt8) : (edOf l).m.toNat = rdN ((l.drop 16).take 4) := u32_of (rdN_take_lt _ 4)
theorem edOf_v (l : List UInt8) : (edOf l).v = .agg #[.int .u32 (rdN (l.take 4)), .int .u32 (rdN ((l.drop 4).take 4)), .int .u64 (rdN ((l.drop 8).take 8)), .int .u32 (rdN ((l.drop 16).take 4))] := by
  unfold Ed.v Ed.cells u32v u64v
  rw [edOf_t, edOf_h, edOf_w, edOf_m]

theorem readEdge_any (v : Value) (l : List UInt8) (w : World) (h : RdB w v l) (hl : l.length = 20) :
    Calls Tryd.prog 38 #[v] w fun e w' => e = .returned (.tuple #[(edOf l).v, .int .i64 0]) ∧ w.grownBy w' none := by
  rw [edOf_v]
  obtain ⟨A, c, rfl⟩ := h.form
  have hb : ((l.length : Int) != 20) = false := by rw [bne_eq_false_iff_eq]; omega
  have hl4 : 20 ≤ l.length := by omega
  have hl5 : l.length ≤ 20 := by omega
  have R0 := Lib.hid h
  clear h hl
  have K0 := Blk.new w 29 #[.int .u32 0, .int .u32 0, .int .u64 0, .int .u32 0]
  have G0 : w.grownBy (w.alloc (.cells #[.int .u32 0, .int .u32 0, .int .u64 0, .int .u32 0] 29)) none := gr_alloc _ _ _
  go_enter Tryd.func38, Tryd.ntmps38
  go_wp2_with fail
  refine (take32i 4 4 rfl _ l _ (by omega) (by first | omega | (simp; omega)) (by first | omega | (simp; omega)) (R0.out.ext G0)).mono ?_
  rintro e w1 ⟨r1, rfl, h1, g1⟩
  have G1 := Lib.hid (gr_none G0 g1)
  have K1 := K0.ext g1
  have R1 := Lib.hid (h1 _ R0.out)
  clear h1 g1
  have c1 := K1.cell
  have f1 := K1.frozen
  have z1 := K1.lt
  have K1 := Lib.hid K1
  go_wp2_with fail
  refine (take32i 4 4 rfl _ (l.drop 4) _ (by omega) (by first | omega | (simp; omega)) (by first | omega | (simp; omega)) (R1.out.ext (gr_set_new G1.out _ _ (Nat.le_refl _)))).mono ?_
  rintro e w2 ⟨r2, rfl, h2, g2⟩
  have G2 := Lib.hid (gr_none (gr_set_new G1.out _ _ (Nat.le_refl _)) g2)
  have K2 := (K1.out.set _ _).ext g2
  have R2 := Lib.hid (h2 _ R1.out)
  clear h2 g2
  rw [List.drop_drop] at R2
  simp only [List.setIfInBounds_toArray, List.set_cons_zero] at K2
  have c2 := K2.cell
  have f2 := K2.frozen
  have z2 := K2.lt
  have K2 := Lib.hid K2
  go_wp2_with fail
  refine (take64i 8 8 rfl _ (l.drop 8) _ (by omega) (by first | omega | (simp; omega)) (by first | omega | (simp; omega)) (R2.out.ext (gr_set_new G2.out _ _ (Nat.le_refl _)))).mono ?_
  rintro e w3 ⟨r3, rfl, h3, g3⟩
  have G3 := Lib.hid (gr_none (gr_set_new G2.out _ _ (Nat.le_refl _)) g3)
  have K3 := (K2.out.set _ _).ext g3
  have R3 := Lib.hid (h3 _ R2.out)
  clear h3 g3
  rw [List.drop_drop] at R3
  simp only [List.setIfInBounds_toArray, List.set_cons_zero, List.set_cons_succ] at K3
  have c3 := K3.cell
  have f3 := K3.frozen
  have z3 := K3.lt
  have K3 := Lib.hid K3
  go_wp2_with fail
  refine (take32i 4 4 rfl _ (l.drop 16) _ (by omega) (by first | omega | (simp; omega)) (by first | omega | (simp; omega)) (R3.out.ext (gr_set_new G3.out _ _ (Nat.le_refl _)))).mono ?_
  rintro e w4 ⟨r4, rfl, h4, g4⟩
  have G4 := Lib.hid (gr_none (gr_set_new G3.out _ _ (Nat.le_refl _)) g4)
  have K4 := (K3.out.set _ _).ext g4
  have R4 := Lib.hid (h4 _ R3.out)
  clear h4 g4
  rw [List.drop_drop] at R4
  simp only [List.setIfInBounds_toArray, List.set_cons_zero, List.set_cons_succ] at K4
  have c4 := K4.cell
  have f4 := K4.frozen
  have z4 := K4.lt
  have K4 := Lib.hid K4
  go_wp2
  exact bodyPost_ret (v := .tuple #[.agg #[.int .u32 (rdN (l.take 4)), .int .u32 (rdN ((l.drop 4).take 4)), .int .u64 (rdN ((l.drop 8).take 8)), .int .u32 (rdN ((l.drop 16).take 4))], .int .i64 0])
    (by simp [results, Tryd.results38, go_sem, c4]) rfl ⟨rfl, by repeat (first | exact G4.out | refine gr_set_new ?_ _ _ (Nat.le_refl _))⟩
end Go.Proofs.YthckjpcknmmagaaDoor
