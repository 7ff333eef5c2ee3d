/-
  does, with no disk: Write, Read, On, and what is no kind.
-/
import Derived.Test.YtfbbbbekialpnaaDon0
namespace Go.Proofs.Ytfbbbbekialpnaa
open Go.RowKit
set_option maxRecDepth 100000
set_option maxHeartbeats 400000

theorem does_nil_other (w : World) (kind : Int) (hk : kind < 0 ∨ 11 < kind) (name into : List UInt8) (off n : Int) (bv kv : Value) (mask : UInt8) :
    Calls Try.prog 51 #[.pointer none, .agg #[.int .i64 kind, .string ⟨name.toArray⟩, .string ⟨into.toArray⟩, .int .i64 off, .int .i64 n, bv, .int .u8 mask.toNat, kv]] w (DoesNil w 0) := by
  have k0 : (kind == 0) = false := by rw [beq_eq_false_iff_ne]; omega
  have k1 : (kind == 1) = false := by rw [beq_eq_false_iff_ne]; omega
  have k2 : (kind == 2) = false := by rw [beq_eq_false_iff_ne]; omega
  have k3 : (kind == 3) = false := by rw [beq_eq_false_iff_ne]; omega
  have k4 : (kind == 4) = false := by rw [beq_eq_false_iff_ne]; omega
  have k5 : (kind == 5) = false := by rw [beq_eq_false_iff_ne]; omega
  have k6 : (kind == 6) = false := by rw [beq_eq_false_iff_ne]; omega
  have k7 : (kind == 7) = false := by rw [beq_eq_false_iff_ne]; omega
  have k8 : (kind == 8) = false := by rw [beq_eq_false_iff_ne]; omega
  have k9 : (kind == 9) = false := by rw [beq_eq_false_iff_ne]; omega
  have k10 : (kind == 10) = false := by rw [beq_eq_false_iff_ne]; omega
  have k11 : (kind == 11) = false := by rw [beq_eq_false_iff_ne]; omega
  clear hk
  go_enter Try.func51, Try.ntmps51
  go_wp2
  refine bodyPost_ret (v := .tuple #[.agg #[.slice none 0 0, .int .i64 0, .int .i64 0], .bool true]) (by simp [results, Try.results51, go_sem]) rfl ⟨_, rfl, OwnB.nil _ _, gr_none (gr_none (gr_alloc _ _ none) (gr_alloc _ _ none)) (gr_alloc _ _ none)⟩
theorem does_nil_write (w : World) (name into : List UInt8) (off n : Int) (bv kv : Value) (b : List UInt8) (hb : RdB w bv b) (hbl : b.length ≤ 65536) (mask : UInt8) :
    Calls Try.prog 51 #[.pointer none, .agg #[.int .i64 3, .string ⟨name.toArray⟩, .string ⟨into.toArray⟩, .int .i64 off, .int .i64 n, bv, .int .u8 mask.toNat, kv]] w (DoesNil w 2) := by
  obtain ⟨Ab, cb, rfl⟩ := hb.form
  have HB := Lib.hid hb
  clear hb
  go_enter Try.func51, Try.ntmps51
  go_wp2_with fail
  obtain ⟨W, hW⟩ : ∃ W, W = ((w.alloc (.cells #[.int .i64 3, .string ⟨name.toArray⟩, .string ⟨into.toArray⟩, .int .i64 off, .int .i64 n, .slice Ab b.length cb, .int .u8 mask.toNat, kv] 79)).alloc (.cells #[.slice none 0 0, .int .i64 0, .int .i64 0] 84)).alloc (.cells #[.slice none 0 0, .int .i64 0, .int .i64 0] 84) := ⟨_, rfl⟩
  rw [← hW]
  obtain ⟨b3, b4, b6, gW⟩ := does3 w _ hW
  have hWz := b6.lt
  have HT := Lib.hid (twin_any _ b W (HB.out.ext gW) (by omega))
  have HGW := Lib.hid gW
  clear hW gW
  refine HT.out.mono ?_
  rintro e w1 ⟨⟨v7, rfl, o7⟩, g1⟩
  obtain ⟨A7, c7, rfl⟩ := o7.rd.form
  have hc3 := (b3.ext g1).cell
  have HB3 := Lib.hid (b3.ext g1)
  have HB4 := Lib.hid (b4.ext g1)
  have HB6 := Lib.hid (b6.ext g1)
  have HO7 := Lib.hid o7
  have HG1 := Lib.hid (gr_none HGW.out g1)
  clear b3 b4 b6 o7 g1 HT
  go_wp2_with fail
  refine (write_dnil _ _ _ _).mono ?_
  rintro e w2 ⟨rfl, g2⟩
  have hb3' := HB3.out.ext g2
  have hb4' := HB4.out.ext g2
  have hb6' := HB6.out.ext g2
  have hc6 := hb6'.cell
  have hf6 := hb6'.frozen
  have hc5 : (w2.setCell ⟨w.heap.size + 1 + 1, 2, none⟩ (.int .i64 2)).cell? ⟨w.heap.size, 5, none⟩ = some (.slice Ab b.length cb) := (hb3'.far (by show w.heap.size ≠ w.heap.size + 1 + 1; omega) _).cell 5
  obtain ⟨W3, hW3⟩ : ∃ W3, W3 = w2.setCell ⟨w.heap.size + 1 + 1, 2, none⟩ (.int .i64 2) := ⟨_, rfl⟩
  have HB3 := Lib.hid hb3'
  have HB4 : Hid (Blk W3 (w.heap.size + 1) 84 #[.slice none 0 0, .int .i64 0, .int .i64 0]) := by show Blk _ _ _ _; rw [hW3]; exact hb4'.far (by simp) _
  have HB6 : Hid (Blk W3 (w.heap.size + 2) 84 #[.slice none 0 0, .int .i64 0, .int .i64 2]) := by show Blk _ _ _ _; rw [hW3]; exact hb6'.set 2 _
  have HG3 : Hid (w.grownBy W3 none) := by show World.grownBy _ _ _; rw [hW3]; exact gr_set_new (gr_none HG1.out g2) _ _ (by show w.heap.size ≤ w.heap.size + 1 + 1; omega)
  have HO3 : Hid (OwnB W3 W.heap.size (.slice A7 b.length c7) b) := by
    show OwnB _ _ _ _
    rw [hW3]
    refine Own.off (Own.ext HO7.out g2) (gr_setCell w2 ⟨w.heap.size + 1 + 1, 2, none⟩ _) fun k e hb' => ?_
    cases e
    have := (Own.blk_lt HO7.out (by omega) hb').1
    simp at this
    omega
  have HSA := Lib.hid (same6_q (.slice A7 b.length c7) (.slice Ab b.length cb) b b W3 HO3.out.rd (HB.out.ext HG3.out) (by omega) (by omega))
  rw [beq_self_eq_true] at HSA
  have HW3 := Lib.hid hW3
  clear hW3 hb3' hb4' hb6' g2 hc3
  go_wp2_with fail
  rw [← HW3.out]
  refine HSA.out.mono ?_
  rintro e w4 ⟨rfl, q4, rfl⟩
  have HB4' : Hid (Blk (W3.drewN q4) (w.heap.size + 1) 84 #[.slice none 0 0, .int .i64 0, .int .i64 0]) := HB4.out.ext (gr_drewN _ _ none)
  have HB6' : Hid (Blk (W3.drewN q4) (w.heap.size + 2) 84 #[.slice none 0 0, .int .i64 0, .int .i64 2]) := HB6.out.ext (gr_drewN _ _ none)
  have HO4 : Hid (OwnB (W3.drewN q4) W.heap.size (.slice A7 b.length c7) b) := Own.ext HO3.out (gr_drewN _ _ none)
  have HG4 : Hid (w.grownBy (W3.drewN q4) none) := gr_none HG3.out (gr_drewN _ _ none)
  obtain ⟨w4, hw4⟩ : ∃ w4, w4 = W3.drewN q4 := ⟨_, rfl⟩
  rw [← hw4] at HB4' HB6' HO4 HG4 ⊢
  clear hw4 hc5 hc6 hf6 HSA HB4 HB6 HB3 HO3 HG3
  go_wp2_with fail
  go_loopw [9] (fun i wr => ∃ k : Nat, k ≤ b.length ∧ i = .int .i64 k ∧ (∃ b' : List UInt8, b'.length = b.length ∧ OwnB wr W.heap.size (.slice A7 b.length c7) b') ∧ Blk wr (w.heap.size + 1) 84 #[.slice none 0 0, .int .i64 0, .int .i64 0] ∧ Blk wr (w.heap.size + 2) 84 #[.slice none 0 0, .int .i64 0, .int .i64 2] ∧ w.grownBy wr none) (fun i _ => b.length - (intOf i).toNat)
  case atStart => exact ⟨0, by omega, rfl, ⟨b, rfl, HO4.out⟩, HB4'.out, HB6'.out, HG4.out⟩
  case round =>
    obtain ⟨k, hk, rfl, ⟨b', hb', hob⟩, hr4, hr6, hrg⟩ := hrel
    by_cases hlt : k < b.length
    · obtain ⟨g, off7, rfl, hgB, -, -, hck, hfk, hset⟩ := hob.at_ (k := k) (by omega)
      have HSET : Hid (OwnB (wr.setCell ⟨g, off7 + k, none⟩ (.int .u8 237)) W.heap.size (.slice (some ⟨g, off7, none⟩) b.length c7) (b'.set k 237)) := hset 237
      obtain ⟨x, hx⟩ : ∃ x, x = b'[k].toNat := ⟨_, rfl⟩
      rw [← hx] at hck
      have HR4 := Lib.hid (hr4.far (p := ⟨g, off7 + k, none⟩) (by show w.heap.size + 1 ≠ g; omega) (.int .u8 237))
      have HR6 := Lib.hid (hr6.far (p := ⟨g, off7 + k, none⟩) (by show w.heap.size + 2 ≠ g; omega) (.int .u8 237))
      have HRG := Lib.hid (gr_set_new hrg ⟨g, off7 + k, none⟩ (.int .u8 237) (by show w.heap.size ≤ g; omega))
      have HBL := Lib.hid hb'
      clear hset hr4 hr6 hrg hob hx hb'
      go_wp2
      go_roundw
      case rel => exact ⟨k + 1, by omega, by go_num, ⟨b'.set k 237, by rw [List.length_set]; exact HBL.out, HSET.out⟩, HR4.out, HR6.out, HRG.out⟩
      case measure => simp [intOf]; omega
    · obtain rfl : k = b.length := by omega
      have hc4 := hr4.cell
      have hf4 := hr4.frozen
      have hc6 := hr6.cell
      have HR4 := Lib.hid hr4
      have HRG := Lib.hid hrg
      clear hr4 hr6 hrg hob
      go_wp2
      obtain ⟨WF, hWF⟩ : ∃ WF, WF = ((wr.setCell ⟨w.heap.size + 1, 0, none⟩ (.slice none 0 0)).setCell ⟨w.heap.size + 1, 1, none⟩ (.int .i64 0)).setCell ⟨w.heap.size + 1, 2, none⟩ (.int .i64 2) := ⟨_, rfl⟩
      rw [← hWF]
      obtain ⟨hcf, -, hgf⟩ := told_fin (by rfl) HR4.out HRG.out _ _ _ hWF
      have HGF := Lib.hid hgf
      clear hWF hc4 hf4 hc6 hgf
      exact bodyPost_ret (v := .tuple #[.agg #[.slice none 0 0, .int .i64 0, .int .i64 2], .bool true]) (by simp [results, Try.results51, go_sem, hcf]) rfl ⟨_, rfl, OwnB.nil _ _, HGF.out⟩
theorem does_nil_read (w : World) (name into : List UInt8) (off n : Int) (bv kv : Value) (mask : UInt8) :
    Calls Try.prog 51 #[.pointer none, .agg #[.int .i64 6, .string ⟨name.toArray⟩, .string ⟨into.toArray⟩, .int .i64 off, .int .i64 n, bv, .int .u8 mask.toNat, kv]] w (DoesNil w 2) := by
  go_enter Try.func51, Try.ntmps51
  go_wp2_with fail
  obtain ⟨W, hW⟩ : ∃ W, W = ((w.alloc (.cells #[.int .i64 6, .string ⟨name.toArray⟩, .string ⟨into.toArray⟩, .int .i64 off, .int .i64 n, bv, .int .u8 mask.toNat, kv] 79)).alloc (.cells #[.slice none 0 0, .int .i64 0, .int .i64 0] 84)).alloc (.cells #[.slice none 0 0, .int .i64 0, .int .i64 0] 84) := ⟨_, rfl⟩
  rw [← hW]
  obtain ⟨b3, b4, b6, gW⟩ := does3 w _ hW
  clear hW
  refine (read_dnil _ _ _ _).mono ?_
  rintro e w1 ⟨rfl, g1⟩
  have HB4 := Lib.hid (b4.ext g1)
  have HB6 := Lib.hid (b6.ext g1)
  have HG1 := Lib.hid (gr_none gW g1)
  have HT := Lib.hid (twin_any (.slice none 0 0) [] w1 (Rd.nil _ _) (by simp))
  have hz1 := HG1.out.size
  clear b3 b4 b6 gW g1
  go_wp2_with fail
  refine HT.out.mono ?_
  rintro e w2 ⟨⟨v2, rfl, o2⟩, g2⟩
  have hb4 := HB4.out.ext g2
  have hb6 := HB6.out.ext g2
  have hc4 := hb4.cell
  have hf4 := hb4.frozen
  have hc6 := hb6.cell
  have hf6 := hb6.frozen
  obtain ⟨A2, c2, rfl⟩ := o2.rd.form
  have HO2 := Lib.hid o2
  have HBB4 := Lib.hid hb4
  have HBB6 := Lib.hid hb6
  have HG2 := Lib.hid (gr_none HG1.out g2)
  have h1z := HB6.out.lt
  clear hb4 hb6 o2 g2 HT HB4 HB6
  simp only [List.length_nil] at *
  go_wp2_with fail
  go_loopw [12] (fun i wr => i = .int .i64 0 ∧ wr = (w2.setCell ⟨w.heap.size + 1 + 1, 0, none⟩ (.slice A2 0 c2)).setCell ⟨w.heap.size + 1 + 1, 2, none⟩ (.int .i64 2)) (fun _ _ => 0)
  case atStart => exact ⟨rfl, rfl⟩
  case round =>
    obtain ⟨rfl, hwr⟩ := hrel
    have hb2 : Blk wr (w.heap.size + 1) 84 #[.slice none 0 0, .int .i64 0, .int .i64 0] := by rw [hwr]; exact (HBB4.out.far (by simp) _).far (by simp) _
    have hg2 : w.grownBy wr none := by rw [hwr]; exact gr_set_new (gr_set_new HG2.out _ _ (by show w.heap.size ≤ w.heap.size + 1 + 1; omega)) _ _ (by show w.heap.size ≤ w.heap.size + 1 + 1; omega)
    have ho2 : OwnB wr w1.heap.size (.slice A2 0 c2) [] := by
      have h2 : ∀ k, blk (.slice A2 0 c2) = some k → k ≠ w.heap.size + 1 + 1 := fun k hk => by have := (Own.blk_lt HO2.out (by omega) hk).1; omega
      rw [hwr]
      exact Own.off (Own.off HO2.out (gr_setCell _ _ _) fun k e hb => by cases e; exact h2 _ hb rfl) (gr_setCell _ _ _) fun k e hb => by cases e; exact h2 _ hb rfl
    have hq4 := hb2.cell
    have hfz4 := hb2.frozen
    have hq6 : ∀ i, i < 3 → wr.cell? ⟨w.heap.size + 1 + 1, i, none⟩ = #[Value.slice A2 0 c2, .int .i64 0, .int .i64 2][i]? := fun i hi => by
      rw [hwr]
      exact ((HBB6.out.set 0 (.slice A2 0 c2)).set 2 (.int .i64 2)).cell i
    have h60 : wr.cell? ⟨w.heap.size + 1 + 1, 0, none⟩ = some (.slice A2 0 c2) := hq6 0 (by omega)
    have h61 : wr.cell? ⟨w.heap.size + 1 + 1, 1, none⟩ = some (.int .i64 0) := hq6 1 (by omega)
    have h62 : wr.cell? ⟨w.heap.size + 1 + 1, 2, none⟩ = some (.int .i64 2) := hq6 2 (by omega)
    have HB2 := Lib.hid hb2
    have HG3 := Lib.hid hg2
    have HO3 := Lib.hid ho2
    clear hwr hb2 hg2 ho2 hq6 hc4 hf4 hc6 hf6
    go_wp2
    obtain ⟨WF, hWF⟩ : ∃ WF, WF = ((wr.setCell ⟨w.heap.size + 1, 0, none⟩ (.slice A2 0 c2)).setCell ⟨w.heap.size + 1, 1, none⟩ (.int .i64 0)).setCell ⟨w.heap.size + 1, 2, none⟩ (.int .i64 2) := ⟨_, rfl⟩
    rw [← hWF]
    obtain ⟨hcf, hgx, hgf⟩ := told_fin (by rfl) HB2.out HG3.out _ _ _ hWF
    have HGF := Lib.hid hgf
    have HOF : Hid (OwnB WF w.heap.size (.slice A2 0 c2) []) :=
      Own.mono (Own.off HO3.out hgx fun k e hb => by cases e; have := (Own.blk_lt HO3.out (by omega) hb).1; omega) hz1
    clear hWF hgf hgx hq4 hfz4 h60 h61 h62
    exact bodyPost_ret (v := .tuple #[.agg #[.slice A2 0 c2, .int .i64 0, .int .i64 2], .bool true]) (by simp [results, Try.results51, go_sem, hcf]) rfl ⟨_, rfl, HOF.out, HGF.out⟩
theorem ownI_at0 (w : World) {B b : Nat} (hb : B ≤ b) : OwnI w B (.slice (some ⟨b, 0, none⟩) 0 0) [] :=
  ⟨by simp [intL], some ⟨b, 0, none⟩, 0, b, 0, rfl, Nat.le_refl _, Nat.zero_le _, fun _ => rfl, fun h => absurd h (by omega), fun a e => by cases e; exact hb, fun j hj => by simp at hj, fun j hj => by simp at hj⟩
theorem does_nil_on (w : World) (name into : List UInt8) (off n : Int) (bv kv : Value) (keep : List Int) (hk : RdI w kv keep) (hkl : keep.length ≤ 65536) (mask : UInt8) :
    Calls Try.prog 51 #[.pointer none, .agg #[.int .i64 10, .string ⟨name.toArray⟩, .string ⟨into.toArray⟩, .int .i64 off, .int .i64 n, bv, .int .u8 mask.toNat, kv]] w (DoesNil w 2) := by
  have HK := Lib.hid hk
  clear hk
  obtain ⟨W, hW⟩ : ∃ W, W = ((w.alloc (.cells #[.int .i64 10, .string ⟨name.toArray⟩, .string ⟨into.toArray⟩, .int .i64 off, .int .i64 n, bv, .int .u8 mask.toNat, kv] 79)).alloc (.cells #[.slice none 0 0, .int .i64 0, .int .i64 0] 84)).alloc (.cells #[.slice none 0 0, .int .i64 0, .int .i64 0] 84) := ⟨_, rfl⟩
  have HW := Lib.hid (does3 w _ hW)
  have HRK : Hid (RdI (W.alloc (.cells #[] 3)) kv keep) := RdI.ext HK.out (gr_none HW.out.2.2.2 (gr_alloc _ _ none))
  rw [hW] at HRK
  have HWE := Lib.hid hW
  clear hW
  go_enter Try.func51, Try.ntmps51
  go_wp2_with (at_builtin; refine wp_appI (m := keep) (l := []) rfl (.tmp 137) (.tmp 139) rfl rfl (ownI_at0 (B := w.heap.size) _ (by omega)) rfl HRK.out (by simp; omega) (by simp; omega) ?_; rintro v1 w1 o1 g1 -)
  rw [← HWE.out] at g1
  obtain ⟨b3, b4, b6, gW⟩ := HW.out
  have gX : W.grownBy w1 none := gr_trans (gr_alloc _ _ none) g1 (.inr fun j e => by cases e; rw [HWE.out]; simp)
  have HB4 := Lib.hid (b4.ext gX)
  have HB6 := Lib.hid (b6.ext gX)
  have HG1 := Lib.hid (gr_none gW gX)
  clear b3 b4 b6 gW gX g1 o1 HRK
  go_wp2_with fail
  refine (on_dnil _ _).mono ?_
  rintro e w2 ⟨rfl, g2⟩
  have hb4 := HB4.out.ext g2
  have hb6 := HB6.out.ext g2
  have hc4 := hb4.cell
  have hf4 := hb4.frozen
  have hc6 := hb6.cell
  have hf6 := hb6.frozen
  have HBB4 := Lib.hid hb4
  have HG := Lib.hid (gr_none HG1.out g2)
  clear hb4 hb6 g2 HB4 HB6
  go_wp2
  obtain ⟨W2, hW2⟩ : ∃ W2, W2 = w2.setCell ⟨w.heap.size + 1 + 1, 2, none⟩ (.int .i64 2) := ⟨_, rfl⟩
  rw [← hW2]
  have hb2 : Blk W2 (w.heap.size + 1) 84 #[.slice none 0 0, .int .i64 0, .int .i64 0] := by rw [hW2]; exact HBB4.out.far (by simp) _
  have hg2 : w.grownBy W2 none := by rw [hW2]; exact gr_set_new HG.out _ _ (by show w.heap.size ≤ w.heap.size + 1 + 1; omega)
  obtain ⟨WF, hWF⟩ : ∃ WF, WF = ((W2.setCell ⟨w.heap.size + 1, 0, none⟩ (.slice none 0 0)).setCell ⟨w.heap.size + 1, 1, none⟩ (.int .i64 0)).setCell ⟨w.heap.size + 1, 2, none⟩ (.int .i64 2) := ⟨_, rfl⟩
  rw [← hWF]
  obtain ⟨hcf, -, hgf⟩ := told_fin (by rfl) hb2 hg2 _ _ _ hWF
  have HGF := Lib.hid hgf
  clear hWF hW2 hb2 hg2 hc4 hf4 hc6 hf6 hgf
  exact bodyPost_ret (v := .tuple #[.agg #[.slice none 0 0, .int .i64 0, .int .i64 2], .bool true]) (by simp [results, Try.results51, go_sem, hcf]) rfl ⟨_, rfl, OwnB.nil _ _, HGF.out⟩
/-- with no disk each kind that is one is refused. -/
theorem does_nil_any (w : World) (o : OpV) (ho : OpOk w o) (hw : opW o ≤ 65536) :
    Calls Try.prog 51 #[.pointer none, .agg o.cells.toArray] w (DoesNil w (if 0 ≤ o.kind ∧ o.kind ≤ 11 then 2 else 0)) := by
  obtain ⟨h1, h2, h3, h4⟩ := opW_small hw
  obtain ⟨kind, name, into, off, n, bv, b, mask, kv, keep⟩ := o
  simp only at h1 h2 h3 h4
  by_cases hk : 0 ≤ kind ∧ kind ≤ 11
  · show Calls _ _ _ w (DoesNil w (if 0 ≤ kind ∧ kind ≤ 11 then 2 else 0))
    rw [if_pos hk]
    obtain h | h | h | h | h | h | h | h | h | h | h | h : kind = 0 ∨ kind = 1 ∨ kind = 2 ∨ kind = 3 ∨ kind = 4 ∨ kind = 5 ∨ kind = 6 ∨ kind = 7 ∨ kind = 8 ∨ kind = 9 ∨ kind = 10 ∨ kind = 11 := by omega
    all_goals subst h
    · exact does_nil_create w name into off n bv kv mask
    · exact does_nil_remove w name into off n bv kv mask
    · exact does_nil_rename w name into off n bv kv mask
    · exact does_nil_write w name into off n bv kv b ho.b h1 mask
    · exact does_nil_cut w name into off n bv kv mask
    · exact does_nil_sync w name into off n bv kv mask
    · exact does_nil_read w name into off n bv kv mask
    · exact does_nil_size w name into off n bv kv mask
    · exact does_nil_quota w name into off n bv kv mask
    · exact does_nil_arm w name into off n bv kv mask
    · exact does_nil_on w name into off n bv kv keep ho.keep h2 mask
    · exact does_nil_flip w name into off n bv kv mask
  · show Calls _ _ _ w (DoesNil w (if 0 ≤ kind ∧ kind ≤ 11 then 2 else 0))
    rw [if_neg hk]
    exact does_nil_other w kind (by omega) name into off n bv kv mask
end Go.Proofs.Ytfbbbbekialpnaa
