/-
  PagefileNumbers, the walk.
-/
import Derived.Test.YtapiocldoignoaaPgc
import Derived.Test.YtapiocldoignoaaPfBack
namespace Go.Proofs.Ytapiocldoignoaa
open Go.RowKit
set_option maxRecDepth 100000
set_option maxHeartbeats 400000

theorem bad_moved {c : List UInt8} {n i k : Nat} {g : Nat → List UInt8} (h : Holds c (crcS an) n g) (hi : i < n) (hk : k < n) :
    badC (overZ c (256 * k) (pgA c i)) n = if i = k then [] else [k] := by
  have hp := pgA_len h.len hi
  have ho : ∀ j, j < n → pgA (overZ c (256 * k) (pgA c i)) j = if j = k then pgA c i else pgA c j := fun j hj => pgA_over h.len hp (by omega) (by omega)
  unfold badC
  by_cases e : i = k
  · subst e
    rw [if_pos rfl]
    refine filter_no n _ fun j hj => ?_
    rw [ho j hj]
    by_cases e2 : j = i
    · rw [if_pos e2, e2, h.at_ i hi]; rfl
    · rw [if_neg e2, h.at_ j hj]; rfl
  · rw [if_neg e]
    refine filter_one n k _ hk ?_ fun j hj hne => ?_
    · rw [ho k hk, if_pos rfl, pagO_moved (h.at_ i hi) (fun e' => e e'.symm)]; rfl
    · rw [ho j hj, if_neg hne, h.at_ j hj]; rfl
theorem read_moved {c : List UInt8} {n i k : Nat} {g : Nat → List UInt8} (h : Holds c (crcS an) n g) (hi : i < n) (hk : k < n) : pagO (pgA (overZ c (256 * k) (pgA c i)) i) (crcS an) i = some (g i) := by
  rw [pgA_over h.len (pgA_len h.len hi) (by omega) (by omega)]
  split
  · exact h.at_ i hi
  · exact h.at_ i hi
set_option maxHeartbeats 4000000 in
theorem num_any (v0 : Value) (ll : List (List UInt8)) (a b : UInt8) (w : World) (h0 : RdBB w v0 ll) :
    Calls Try.prog 5 #[v0, .int .u8 a.toNat, .int .u8 b.toNat] w fun e w' => e = .returned (.bool true) ∧ w.grownBy w' none := by
  obtain ⟨A, c0, rfl⟩ := h0.form
  have H0 := Lib.hid h0
  have ha := a.toNat_lt
  have hb := b.toNat_lt
  by_cases hbig : 40 < ll.length
  · clear h0
    go_enter Try.func5, Try.ntmps5
    go_wp2_with (go_at_call 9; refine (works_any _).mono ?_; rintro e w1 ⟨rfl, g1⟩)
    go_ret
    exact ⟨rfl, g1⟩
  have hll : ll.length ≤ 40 := by omega
  obtain ⟨g, off, hA, hc, hcm, hcells⟩ := h0.at_
  have HA := Lib.hid hA
  have HC := Lib.hid hcells
  unfold maxLen at hcm
  clear h0 hA hcells
  have HLD := Lib.hid (laid_any _ ll w H0.out hll)
  by_cases hz : ll.length = 0
  · have hz2 : ((ll.length : Int) == 0) = true := by rw [beq_iff_eq]; omega
    clear hz
    go_enter Try.func5, Try.ntmps5
    go_wp2_with fail
    refine HLD.out.mono ?_
    rintro e w1 ⟨g1, rfl | ⟨hsm, d, pf, rfl, p1⟩⟩
    · have G1 := Lib.hid g1
      clear g1
      go_wp2_with (go_at_call 9; refine (works_any _).mono ?_; rintro e w2 ⟨rfl, g2⟩)
      go_ret
      exact ⟨rfl, gr_none G1.out g2⟩
    · have G1 := Lib.hid g1
      clear g1 p1 hsm
      go_wp2_with (go_at_call 9; refine (works_any _).mono ?_; rintro e w2 ⟨rfl, g2⟩)
      go_ret
      exact ⟨rfl, gr_none G1.out g2⟩
  have hposi : (0 : Int) < (ll.length : Int) := by omega
  have hposb : ((ll.length : Int) == 0) = false := by rw [beq_eq_false_iff_ne]; omega
  have hposd : (ll.length : Int) ≠ 0 := by omega
  go_enter Try.func5, Try.ntmps5
  go_wp2_with fail
  refine HLD.out.mono ?_
  rintro e w1 ⟨g1, rfl | ⟨hsm, d, pf, rfl, p1⟩⟩
  · have G1 := Lib.hid g1
    clear g1
    go_wp2_with (go_at_call 9; refine (works_any _).mono ?_; rintro e w2 ⟨rfl, g2⟩)
    go_ret
    exact ⟨rfl, gr_none G1.out g2⟩
  obtain ⟨cc, pc, hh⟩ := p1.toC
  have P1 := Lib.hid pc
  have HH := Lib.hid hh
  clear g1 p1 hsm pc hh
  go_wp2_with fail
  obtain ⟨i, hie⟩ : ∃ i : Nat, (a.toNat : Int) % (ll.length : Int) = (i : Int) := ⟨((a.toNat : Int) % (ll.length : Int)).toNat, (Int.toNat_of_nonneg (Int.emod_nonneg _ hposd)).symm⟩
  obtain ⟨k, hke⟩ : ∃ k : Nat, (b.toNat : Int) % (ll.length : Int) = (k : Int) := ⟨((b.toNat : Int) % (ll.length : Int)).toNat, (Int.toNat_of_nonneg (Int.emod_nonneg _ hposd)).symm⟩
  have hi : i < ll.length := by have := Int.emod_lt_of_pos (a.toNat : Int) hposi; omega
  have hk : k < ll.length := by have := Int.emod_lt_of_pos (b.toNat : Int) hposi; omega
  rw [hie, hke]
  clear hie hke
  have hwi : wrap64 (256 * (i : Int)) = 256 * (i : Int) := by unfold wrap64; omega
  have hwk : wrap64 (256 * (k : Int)) = 256 * (k : Int) := by unfold wrap64; omega
  rw [hwi]
  have HRD : Hid (Calls Try.prog 21 #[.pointer (some ⟨d, 0, none⟩), .string ⟨#[97]⟩, .int .i64 (256 * (i : Int)), .int .i64 256] w1 fun e w' => (∃ v, e = .returned (.tuple #[v, .int .i64 0]) ∧ OwnB w' w1.heap.size v (pgA cc i)) ∧ w1.grownBy w' none) := by
    have := P1.out.dread (k := i) (by omega) hi
    rw [Int.mul_comm] at this
    exact this
  have HWR : Hid (∀ (W : World) (v : Value), w1.grownBy W none → OwnB W w1.heap.size v (pgA cc i) → Calls Try.prog 22 #[.pointer (some ⟨d, 0, none⟩), .string ⟨#[97]⟩, .int .i64 (256 * (k : Int)), v] W fun e w' => e = .returned (.int .i64 0) ∧ PgC w w' d pf 4096 ll.length (ll.length + 1) (overZ cc (256 * k) (pgA cc i))) := fun W v hW ho => by
    have := P1.out.dwrite (k := k) (by omega) hk (by omega) (pgA_len HH.out.len hi) (Nat.le_refl _) hW ho
    rw [Int.mul_comm] at this
    exact this
  have HBD := Lib.hid (bad_moved HH.out hi hk)
  have HRM := Lib.hid (read_moved HH.out hi hk)
  have HE : Hid (∀ (wx : World) (v v' : Value) (l : List UInt8), RdB wx v l → RdB wx v' l → Calls Try.prog 15 #[v, v'] wx fun e w' => e = .returned (.bool true) ∧ wx = w') := fun wx v v' l => eqB_true
  obtain rfl := HA.out (by omega)
  obtain ⟨Ai, ci, hci, hri⟩ := HC.out i hi
  refine HRD.out.mono ?_
  rintro e w2 ⟨⟨v2, rfl, o2⟩, g2⟩
  have HW2 := Lib.hid (HWR.out _ _ g2 o2)
  clear o2 g2
  go_wp2_with fail
  refine HW2.out.mono ?_
  rintro e w3 ⟨rfl, p3⟩
  have P3 := Lib.hid p3
  have HB3 := Lib.hid p3.bad
  clear p3
  rw [HBD.out] at HB3
  go_wp2_with fail
  refine HB3.out.mono ?_
  rintro e w4 ⟨⟨v4, rfl, r4⟩, g4⟩
  have P4 := Lib.hid (P3.out.ext g4)
  have HR4 : Hid (Calls Try.prog 14 #[.pointer (some ⟨pf, 0, none⟩), .int .i64 i] w4 fun e w' => (∃ v, e = .returned (.tuple #[v, .int .i64 0]) ∧ OwnB w' w4.heap.size v (ll.getD i [])) ∧ w4.grownBy w' none) := (P3.out.ext g4).readOk (by omega) hi HRM.out
  have GR := Lib.hid (P3.out.ext g4).gr
  have hcw : ∀ wx : World, w4.grownBy wx none → wx.cell? ⟨g, off + i, none⟩ = some (.slice Ai (ll.getD i []).length ci) := fun wx hg => (gr_none GR.out hg).cell hci (by simp)
  have HCW := Lib.hid hcw
  have HRI : Hid (∀ wx : World, w4.grownBy wx none → RdB wx (.slice Ai (ll.getD i []).length ci) (ll.getD i [])) := fun wx hg => hri.ext (gr_none GR.out hg)
  clear hci hri hcw g4
  generalize ll.getD i [] = bi at HR4 HCW HRI
  by_cases hik : i = k
  · subst hik
    rw [if_pos rfl] at r4
    obtain ⟨_, A4, c4, g4, off4, rfl, _⟩ := r4
    have hne : ((i : Int) != (i : Int)) = false := by simp
    have hne2 : ((i : Int) == (i : Int)) = true := by simp
    go_wp2_with fail
    refine HR4.out.mono ?_
    rintro e w5 ⟨⟨v5, rfl, o5⟩, g5⟩
    have hcw := HCW.out w5 g5
    have HE5 := Lib.hid (HE.out _ _ _ bi o5.rd (HRI.out _ g5))
    have G5 := Lib.hid (gr_none GR.out g5)
    clear o5 g5
    go_wp2_with (first
      | (go_at_call 15; refine HE5.out.mono ?_; rintro e w6 ⟨rfl, rfl⟩)
      | (go_at_call 9; refine (works_any _).mono ?_; rintro e w7 ⟨rfl, g7⟩))
    go_ret
    exact ⟨rfl, gr_none G5.out g7⟩
  · rw [if_neg hik] at r4
    obtain ⟨_, A4, c4, g4, off4, rfl, hn4, hm4, _, hA4, hx4⟩ := r4
    obtain rfl := hA4 (by simp at hn4; omega)
    have hc0 : w4.cell? ⟨g4, off4, none⟩ = some (.int .i64 (k : Int)) := by have := hx4 0 (by simp); simpa [natL] using this
    have hne : ((i : Int) != (k : Int)) = true := by rw [bne_iff_ne]; omega
    have hne2 : ((i : Int) == (k : Int)) = false := by rw [beq_eq_false_iff_ne]; omega
    have hne3 : ((k : Int) != (k : Int)) = false := by simp
    simp only [List.length_cons, List.length_nil] at hn4 ⊢
    clear hx4 hA4 hik
    go_wp2_with fail
    refine HR4.out.mono ?_
    rintro e w5 ⟨⟨v5, rfl, o5⟩, g5⟩
    have hcw := HCW.out w5 g5
    have HE5 := Lib.hid (HE.out _ _ _ bi o5.rd (HRI.out _ g5))
    have G5 := Lib.hid (gr_none GR.out g5)
    clear o5 g5
    go_wp2_with (first
      | (go_at_call 15; refine HE5.out.mono ?_; rintro e w6 ⟨rfl, rfl⟩)
      | (go_at_call 9; refine (works_any _).mono ?_; rintro e w7 ⟨rfl, g7⟩))
    go_ret
    exact ⟨rfl, gr_none G5.out g7⟩
end Go.Proofs.Ytapiocldoignoaa
